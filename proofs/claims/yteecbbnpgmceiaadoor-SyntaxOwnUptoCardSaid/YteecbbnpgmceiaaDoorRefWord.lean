import Derived.Test.YteecbbnpgmceiaaDoorWord2
namespace Go.Proofs.YteecbbnpgmceiaaDoor
open Go Go.RowKit Go.Mine
set_option maxHeartbeats 400000
set_option maxRecDepth 100000
set_option linter.unusedVariables false

theorem get_in (s : ByteArray) (p : Nat) (h : p < s.size) : s.get! p = s[p] := by simpa using get_at s p h
def c3 (s : ByteArray) (at_ : Nat) : Prop := ∃ h : at_ + 1 < s.size, s[at_].toNat = 195 ∧ 128 ≤ s[at_ + 1].toNat ∧ s[at_ + 1].toNat ≤ 191
theorem dec_c3 (s : ByteArray) (at_ : Nat) (h : at_ + 1 < s.size) (h0 : s[at_].toNat = 195) (h1 : 128 ≤ s[at_ + 1].toNat) (h2 : s[at_ + 1].toNat ≤ 191) : Utf8.decode s at_ = (s[at_ + 1].toNat + 64, 2) := by
  have g0 : (s.get! (at_ + 0)).toNat = 195 := by rw [get_at s at_ (by omega), h0]
  have g1 : (s.get! (at_ + 1)).toNat = s[at_ + 1].toNat := by rw [get_in s _ h]
  simp only [Utf8.decode, g0, g1]
  rw [if_neg (by decide), if_pos (by simp [h]; omega), if_pos (by omega)]
  congr 1
  omega
theorem dec_high (s : ByteArray) (at_ : Nat) (h : at_ < s.size) (h0 : 128 ≤ s[at_].toNat) (hn : ¬ c3 s at_) : letterL (Utf8.decode s at_).1 = 0 := by
  have g0 : (s.get! (at_ + 0)).toNat = s[at_].toNat := by rw [get_at s at_ h]
  have hlt := s[at_].toNat_lt
  have g1 : at_ + 1 < s.size → s[at_].toNat = 195 → (s.get! (at_ + 1)).toNat / 64 = 2 → False := fun h1 h2 h3 => by
    rw [get_in s _ h1] at h3
    exact hn ⟨h1, h2, by omega, by omega⟩
  have hb1 := (s.get! (at_ + 1)).toNat_lt
  have hb2 := (s.get! (at_ + 2)).toNat_lt
  have hb3 := (s.get! (at_ + 3)).toNat_lt
  simp only [Utf8.decode, g0]
  generalize s[at_].toNat = b0 at *
  generalize (s.get! (at_ + 1)).toNat = b1 at *
  generalize (s.get! (at_ + 2)).toNat = b2 at *
  generalize (s.get! (at_ + 3)).toNat = b3 at *
  have key : ∀ r : Nat, (128 ≤ r ∧ r < 192) ∨ 255 < r → letterL r = 0 := fun r hr => by
    unfold letterL; rw [if_neg (by omega), if_neg (by omega)]
  repeat' split
  all_goals apply key
  all_goals simp_all [Utf8.runeError]
  all_goals omega
theorem dec_low (s : ByteArray) (at_ : Nat) (h : at_ < s.size) (h0 : s[at_].toNat < 128) : Utf8.decode s at_ = (s[at_].toNat, 1) := decode_ascii s at_ h h0

def smallL (s : ByteArray) (at_ : Nat) : Nat := if letterL (Utf8.decode s at_).1 = 1 then (Utf8.decode s at_).2 else 0
def greatL (s : ByteArray) (at_ : Nat) : Nat := if letterL (Utf8.decode s at_).1 = 2 then (Utf8.decode s at_).2 else 0

theorem lo1 {n : Nat} (h : n < 128) : letterL n = 1 ↔ 97 ≤ n ∧ n ≤ 122 := by
  unfold letterL; constructor
  · intro h2; split at h2
    · omega
    · split at h2 <;> omega
  · intro h2; rw [if_pos (by omega)]
theorem lo2 {n : Nat} (h : n < 128) : letterL n = 2 ↔ 65 ≤ n ∧ n ≤ 90 := by
  unfold letterL; constructor
  · intro h2; split at h2
    · omega
    · split at h2 <;> omega
  · intro h2; rw [if_neg (by omega), if_pos (by omega)]
theorem hi1 {n : Nat} (h : 192 ≤ n) (h' : n ≤ 255) : letterL n = 1 ↔ 223 ≤ n ∧ n ≠ 247 := by
  unfold letterL; constructor
  · intro h2; split at h2
    · omega
    · split at h2 <;> omega
  · intro h2; rw [if_pos (by omega)]
theorem hi2 {n : Nat} (h : 192 ≤ n) (h' : n ≤ 255) : letterL n = 2 ↔ n ≤ 222 ∧ n ≠ 215 := by
  unfold letterL; constructor
  · intro h2; split at h2
    · omega
    · split at h2 <;> omega
  · intro h2; rw [if_neg (by omega), if_pos (by omega)]
theorem small_lo {s : ByteArray} {at_ : Nat} (h : at_ < s.size) (h0 : s[at_].toNat < 128) : smallL s at_ = if 97 ≤ s[at_].toNat ∧ s[at_].toNat ≤ 122 then 1 else 0 := by
  unfold smallL; rw [dec_low s at_ h h0]; simp only [lo1 h0]
theorem great_lo {s : ByteArray} {at_ : Nat} (h : at_ < s.size) (h0 : s[at_].toNat < 128) : greatL s at_ = if 65 ≤ s[at_].toNat ∧ s[at_].toNat ≤ 90 then 1 else 0 := by
  unfold greatL; rw [dec_low s at_ h h0]; simp only [lo2 h0]
theorem small_c3 {s : ByteArray} {at_ : Nat} (h : at_ + 1 < s.size) (h0 : s[at_].toNat = 195) (h1 : 128 ≤ s[at_ + 1].toNat) (h2 : s[at_ + 1].toNat ≤ 191) : smallL s at_ = if 159 ≤ s[at_ + 1].toNat ∧ s[at_ + 1].toNat ≠ 183 then 2 else 0 := by
  unfold smallL; rw [dec_c3 s at_ h h0 h1 h2]; simp only [hi1 (show 192 ≤ s[at_ + 1].toNat + 64 by omega) (by omega)]
  congr 1
  exact propext ⟨fun h => by omega, fun h => by omega⟩
theorem great_c3 {s : ByteArray} {at_ : Nat} (h : at_ + 1 < s.size) (h0 : s[at_].toNat = 195) (h1 : 128 ≤ s[at_ + 1].toNat) (h2 : s[at_ + 1].toNat ≤ 191) : greatL s at_ = if s[at_ + 1].toNat ≤ 158 ∧ s[at_ + 1].toNat ≠ 151 then 2 else 0 := by
  unfold greatL; rw [dec_c3 s at_ h h0 h1 h2]; simp only [hi2 (show 192 ≤ s[at_ + 1].toNat + 64 by omega) (by omega)]
  congr 1
  exact propext ⟨fun h => by omega, fun h => by omega⟩
theorem small_hi {s : ByteArray} {at_ : Nat} (h : at_ < s.size) (h0 : 128 ≤ s[at_].toNat) (hn : ¬ c3 s at_) : smallL s at_ = 0 := by
  unfold smallL; rw [dec_high s at_ h h0 hn]; rfl
theorem great_hi {s : ByteArray} {at_ : Nat} (h : at_ < s.size) (h0 : 128 ≤ s[at_].toNat) (hn : ¬ c3 s at_) : greatL s at_ = 0 := by
  unfold greatL; rw [dec_high s at_ h h0 hn]; rfl

theorem small_any (s : ByteArray) (at_ : Nat) (w : World) (h : at_ < s.size) (hs : s.size < 2 ^ 40) :
    Calls Tryd.prog 198 #[.string s, .int .i64 at_] w fun e w' => e = .returned (.int .i64 (smallL s at_)) ∧ w = w' := by
  obtain ⟨v, hv⟩ : ∃ v, v = smallL s at_ := ⟨_, rfl⟩
  rw [← hv]
  obtain ⟨n0, hn0⟩ : ∃ n0, s[at_].toNat = n0 := ⟨_, rfl⟩
  by_cases hlo : n0 < 128
  · rw [small_lo h (by omega), hn0] at hv
    have h195 : ((n0 : Int) == 195) = false := by simp; omega
    rcases (show v = 1 ∧ 97 ≤ n0 ∧ n0 ≤ 122 ∨ v = 0 ∧ n0 < 97 ∨ v = 0 ∧ 122 < n0 by split at hv <;> omega) with ⟨rfl, h1, h2⟩ | ⟨rfl, h1⟩ | ⟨rfl, h1⟩
    all_goals
      clear hv
      go_enter Tryd.func198, Tryd.ntmps198
      go_wp2
      go_ret
      exact ⟨rfl, rfl⟩
  · by_cases h195 : n0 = 195
    · subst h195
      by_cases h1 : at_ + 1 < s.size
      · obtain ⟨n1, hn1⟩ : ∃ n1, s[at_ + 1].toNat = n1 := ⟨_, rfl⟩
        have hv2 : v = if 159 ≤ n1 ∧ n1 ≤ 191 ∧ n1 ≠ 183 then 2 else 0 := by
          by_cases hb : 128 ≤ n1 ∧ n1 ≤ 191
          · rw [hv, small_c3 h1 hn0 (by omega) (by omega), hn1]
            congr 1
            exact propext ⟨fun h => by omega, fun h => by omega⟩
          · rw [hv, small_hi h (by omega) (fun ⟨_, _, h3, h4⟩ => hb (by omega)), if_neg (by omega)]
        clear hv
        by_cases h183 : n1 = 183
        · subst h183
          rw [if_neg (by omega)] at hv2
          subst hv2
          go_enter Tryd.func198, Tryd.ntmps198
          go_wp2
          go_ret
          exact ⟨rfl, rfl⟩
        · have h183b : ((n1 : Int) != 183) = true := by simp; omega
          rcases (show v = 0 ∧ n1 < 159 ∨ v = 0 ∧ 191 < n1 ∨ v = 2 ∧ 159 ≤ n1 ∧ n1 ≤ 191 by split at hv2 <;> omega) with ⟨rfl, h2⟩ | ⟨rfl, h2⟩ | ⟨rfl, h2, h3⟩
          all_goals
            clear hv2 h183
            go_enter Tryd.func198, Tryd.ntmps198
            go_wp2
            go_ret
            exact ⟨rfl, rfl⟩
      · rw [small_hi h (by omega) (fun ⟨h, _⟩ => h1 h)] at hv
        subst hv
        go_enter Tryd.func198, Tryd.ntmps198
        go_wp2
        go_ret
        exact ⟨rfl, rfl⟩
    · rw [small_hi h (by omega) (fun ⟨_, h, _⟩ => h195 (by omega))] at hv
      subst hv
      have h195 : ((n0 : Int) == 195) = false := by simp; omega
      go_enter Tryd.func198, Tryd.ntmps198
      go_wp2
      go_ret
      exact ⟨rfl, rfl⟩
theorem great_any (s : ByteArray) (at_ : Nat) (w : World) (h : at_ < s.size) (hs : s.size < 2 ^ 40) :
    Calls Tryd.prog 199 #[.string s, .int .i64 at_] w fun e w' => e = .returned (.int .i64 (greatL s at_)) ∧ w = w' := by
  obtain ⟨v, hv⟩ : ∃ v, v = greatL s at_ := ⟨_, rfl⟩
  rw [← hv]
  obtain ⟨n0, hn0⟩ : ∃ n0, s[at_].toNat = n0 := ⟨_, rfl⟩
  by_cases hlo : n0 < 128
  · rw [great_lo h (by omega), hn0] at hv
    have h195 : ((n0 : Int) == 195) = false := by simp; omega
    rcases (show v = 1 ∧ 65 ≤ n0 ∧ n0 ≤ 90 ∨ v = 0 ∧ n0 < 65 ∨ v = 0 ∧ 90 < n0 by split at hv <;> omega) with ⟨rfl, h1, h2⟩ | ⟨rfl, h1⟩ | ⟨rfl, h1⟩
    all_goals
      clear hv
      go_enter Tryd.func199, Tryd.ntmps199
      go_wp2
      go_ret
      exact ⟨rfl, rfl⟩
  · by_cases h195 : n0 = 195
    · subst h195
      by_cases h1 : at_ + 1 < s.size
      · obtain ⟨n1, hn1⟩ : ∃ n1, s[at_ + 1].toNat = n1 := ⟨_, rfl⟩
        have hv2 : v = if 128 ≤ n1 ∧ n1 ≤ 158 ∧ n1 ≠ 151 then 2 else 0 := by
          by_cases hb : 128 ≤ n1 ∧ n1 ≤ 191
          · rw [hv, great_c3 h1 hn0 (by omega) (by omega), hn1]
            congr 1
            exact propext ⟨fun h => by omega, fun h => by omega⟩
          · rw [hv, great_hi h (by omega) (fun ⟨_, _, h3, h4⟩ => hb (by omega)), if_neg (by omega)]
        clear hv
        by_cases h151 : n1 = 151
        · subst h151
          rw [if_neg (by omega)] at hv2
          subst hv2
          go_enter Tryd.func199, Tryd.ntmps199
          go_wp2
          go_ret
          exact ⟨rfl, rfl⟩
        · have h151b : ((n1 : Int) != 151) = true := by simp; omega
          rcases (show v = 0 ∧ n1 < 128 ∨ v = 0 ∧ 158 < n1 ∨ v = 2 ∧ 128 ≤ n1 ∧ n1 ≤ 158 by split at hv2 <;> omega) with ⟨rfl, h2⟩ | ⟨rfl, h2⟩ | ⟨rfl, h2, h3⟩
          all_goals
            clear hv2 h151
            go_enter Tryd.func199, Tryd.ntmps199
            go_wp2
            go_ret
            exact ⟨rfl, rfl⟩
      · rw [great_hi h (by omega) (fun ⟨h, _⟩ => h1 h)] at hv
        subst hv
        go_enter Tryd.func199, Tryd.ntmps199
        go_wp2
        go_ret
        exact ⟨rfl, rfl⟩
    · rw [great_hi h (by omega) (fun ⟨_, h, _⟩ => h195 (by omega))] at hv
      subst hv
      have h195 : ((n0 : Int) == 195) = false := by simp; omega
      go_enter Tryd.func199, Tryd.ntmps199
      go_wp2
      go_ret
      exact ⟨rfl, rfl⟩
end Go.Proofs.YteecbbnpgmceiaaDoor
