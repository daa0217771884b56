import Derived.Test.YteecbbnpgmceiaaDoorRefWord
namespace Go.Proofs.YteecbbnpgmceiaaDoor
open Go Go.RowKit Go.Mine
set_option maxHeartbeats 400000
set_option maxRecDepth 100000
set_option linter.unusedVariables false

theorem letterL_le (r : Nat) : letterL r ≤ 2 := by unfold letterL; split <;> (try split) <;> omega
theorem letter_digit {r : Nat} (h : 48 ≤ r ∧ r ≤ 57 ∨ r = 95) : letterL r = 0 := by unfold letterL; rw [if_neg (by omega), if_neg (by omega)]
theorem dec_digit {s : ByteArray} {at_ : Nat} (h : at_ < s.size) : digitL (Utf8.decode s at_).1 = decide (48 ≤ s[at_].toNat ∧ s[at_].toNat ≤ 57) ∧ ((Utf8.decode s at_).1 = 95 ↔ s[at_].toNat = 95) := by
  by_cases hlo : s[at_].toNat < 128
  · rw [dec_low s at_ h hlo]; exact ⟨rfl, Iff.rfl⟩
  · have := (decode_high s at_ h (by omega)).1
    refine ⟨?_, by omega⟩
    unfold digitL
    rw [decide_eq_false (by omega), decide_eq_false (by omega)]
theorem dec_one {s : ByteArray} {at_ : Nat} (h : at_ < s.size) (h2 : s[at_].toNat < 128) : (Utf8.decode s at_).2 = 1 := by rw [dec_low s at_ h h2]
theorem part_one {s : ByteArray} {at_ : Nat} (h : at_ < s.size) (h2 : 48 ≤ s[at_].toNat ∧ s[at_].toNat ≤ 57 ∨ s[at_].toNat = 95) : partL s at_ = 1 := by
  unfold partL
  have hp : isPart s[at_].toNat = true := by
    unfold isPart digitL
    rcases h2 with h2 | h2 <;> simp [h2]
  rw [dec_low s at_ h (by omega), if_pos ⟨h, hp⟩]
theorem part_sum {s : ByteArray} {at_ : Nat} (h : at_ < s.size) (h1 : ¬ (48 ≤ s[at_].toNat ∧ s[at_].toNat ≤ 57)) (h2 : s[at_].toNat ≠ 95) : partL s at_ = smallL s at_ + greatL s at_ := by
  obtain ⟨d1, d2⟩ := dec_digit h
  rw [decide_eq_false h1] at d1
  have d3 : ¬ (Utf8.decode s at_).1 = 95 := fun e => h2 (d2.1 e)
  have hl := letterL_le (Utf8.decode s at_).1
  unfold partL smallL greatL isPart
  rw [d1]
  generalize (Utf8.decode s at_).1 = r at *
  rcases (show letterL r = 0 ∨ letterL r = 1 ∨ letterL r = 2 by omega) with e | e | e <;> simp [e, h, d3]
theorem kind_sum {s : ByteArray} {at_ : Nat} (h : at_ < s.size) : kindL s at_ = if 0 < greatL s at_ ∨ s[at_].toNat = 95 then 2 else if 0 < smallL s at_ ∨ (48 ≤ s[at_].toNat ∧ s[at_].toNat ≤ 57) then 1 else 0 := by
  obtain ⟨d1, d2⟩ := dec_digit h
  have hw := (decode_width s at_ h).1
  have hl := letterL_le (Utf8.decode s at_).1
  have hz : (48 ≤ s[at_].toNat ∧ s[at_].toNat ≤ 57) ∨ s[at_].toNat = 95 → letterL (Utf8.decode s at_).1 = 0 := fun hh => by
    rw [dec_low s at_ h (by omega)]; exact letter_digit hh
  unfold kindL kindR smallL greatL
  rw [if_pos h, d1]
  generalize Utf8.decode s at_ = g at *
  obtain ⟨r, n⟩ := g
  simp only at *
  by_cases h95 : s[at_].toNat = 95
  · rw [hz (.inr h95)]
    simp [h95, d2]
  · by_cases hd : 48 ≤ s[at_].toNat ∧ s[at_].toNat ≤ 57
    · rw [hz (.inl hd)]; simp [hd, h95]
    · have d3 : ¬ r = 95 := fun e => h95 (d2.1 e)
      rcases (show letterL r = 0 ∨ letterL r = 1 ∨ letterL r = 2 by omega) with e | e | e <;> simp [e, h95, hd, d3] <;> omega

theorem part_any (s : ByteArray) (at_ : Nat) (w : World) (h : at_ ≤ s.size) (hs : s.size < 2 ^ 40) :
    Calls Tryd.prog 200 #[.string s, .int .i64 at_] w fun e w' => e = .returned (.int .i64 (partL s at_)) ∧ w = w' := by
  by_cases hlt : at_ < s.size
  · obtain ⟨v, hv⟩ : ∃ v, v = partL s at_ := ⟨_, rfl⟩
    rw [← hv]
    obtain ⟨n0, hn0⟩ : ∃ n0, s[at_].toNat = n0 := ⟨_, rfl⟩
    by_cases h95 : n0 = 95
    · subst h95
      rw [part_one hlt (.inr hn0)] at hv
      subst hv
      go_enter Tryd.func200, Tryd.ntmps200
      go_wp2
      go_ret
      exact ⟨rfl, rfl⟩
    · have h95b : ((n0 : Int) == 95) = false := by simp; omega
      by_cases hd : 48 ≤ n0 ∧ n0 ≤ 57
      · rw [part_one hlt (.inl (by omega))] at hv
        subst hv
        obtain ⟨h1, h2⟩ := hd
        clear h95
        go_enter Tryd.func200, Tryd.ntmps200
        go_wp2
        go_ret
        exact ⟨rfl, rfl⟩
      · rw [part_sum hlt (by omega) (by omega)] at hv
        have HS := Lib.hid (fun w => small_any s at_ w hlt hs)
        have HG := Lib.hid (fun w => great_any s at_ w hlt hs)
        have b1 : smallL s at_ ≤ s.size := by have := decode_width s at_ hlt; unfold smallL; split <;> omega
        have b2 : greatL s at_ ≤ s.size := by have := decode_width s at_ hlt; unfold greatL; split <;> omega
        generalize smallL s at_ = a at *
        generalize greatL s at_ = b at *
        have HV := Lib.hid hv; clear hv h95
        rcases (show n0 < 48 ∨ 57 < n0 by omega) with h1 | h1
        all_goals
          clear hd
          go_enter Tryd.func200, Tryd.ntmps200
          go_wp2_with (first
            | (go_at_call 198; refine (HS.out _).mono ?_; rintro e w' ⟨rfl, rfl⟩)
            | (go_at_call 199; refine (HG.out _).mono ?_; rintro e w' ⟨rfl, rfl⟩))
          go_ret
          exact ⟨by rw [HV.out]; rfl, rfl⟩
  · obtain rfl : at_ = s.size := by omega
    have : partL s s.size = 0 := by unfold partL; rw [if_neg (fun h => hlt h.1)]
    rw [this]
    clear this
    go_enter Tryd.func200, Tryd.ntmps200
    go_wp2
    go_ret
    exact ⟨rfl, rfl⟩
end Go.Proofs.YteecbbnpgmceiaaDoor
