import Derived.Test.YtgplagdehfhffaaDoorScanL
import Derived.Test.YtgplagdehfhffaaDoorRefWord
namespace Go.Proofs.YtgplagdehfhffaaDoor
open Go Go.RowKit Go.Mine
set_option maxHeartbeats 4000000
set_option maxRecDepth 100000
set_option linter.unusedVariables false

def runeN (c : Nat) : Nat := if 194 ≤ c ∧ c ≤ 223 then 2 else if 224 ≤ c ∧ c ≤ 239 then 3 else if 240 ≤ c ∧ c ≤ 244 then 4 else 0
def runeLo (c : Nat) : Nat := if c = 224 then 160 else if c = 240 then 144 else 128
def runeHi (c : Nat) : Nat := if c = 237 then 159 else if c = 244 then 143 else 191
def contB (s : ByteArray) (j : Nat) : Prop := 128 ≤ (s.get! j).toNat ∧ (s.get! j).toNat ≤ 191
instance (s : ByteArray) (j : Nat) : Decidable (contB s j) := by unfold contB; infer_instance
/-- how many bytes the rune from 128 on has that stands at a place; 0: there is none -/
def runeL (s : ByteArray) (i : Nat) : Nat := if (Utf8.decode s i).1 < 128 ∨ ((Utf8.decode s i).1 = 65533 ∧ (Utf8.decode s i).2 = 1) then 0 else (Utf8.decode s i).2
/-- the same by the table -/
def runeT (s : ByteArray) (i : Nat) : Nat :=
  if runeN (s.get! i).toNat = 0 ∨ s.size < i + runeN (s.get! i).toNat ∨ (s.get! (i + 1)).toNat < runeLo (s.get! i).toNat ∨ runeHi (s.get! i).toNat < (s.get! (i + 1)).toNat ∨
    (3 ≤ runeN (s.get! i).toNat ∧ ¬ contB s (i + 2)) ∨ (4 ≤ runeN (s.get! i).toNat ∧ ¬ contB s (i + 3)) then 0 else runeN (s.get! i).toNat
theorem runeT_all {s : ByteArray} {i : Nat} (h0 : runeN (s.get! i).toNat ≠ 0) (h1 : i + runeN (s.get! i).toNat ≤ s.size) (h2 : runeLo (s.get! i).toNat ≤ (s.get! (i + 1)).toNat) (h3 : (s.get! (i + 1)).toNat ≤ runeHi (s.get! i).toNat) :
    ((∀ k, 2 ≤ k → k < runeN (s.get! i).toNat → contB s (i + k)) → runeT s i = runeN (s.get! i).toNat) ∧ ((∃ k, 2 ≤ k ∧ k < runeN (s.get! i).toNat ∧ ¬ contB s (i + k)) → runeT s i = 0) := by
  constructor
  · intro h
    unfold runeT
    rw [if_neg]
    rintro (h' | h' | h' | h' | ⟨h', h''⟩ | ⟨h', h''⟩)
    · exact h0 h'
    · omega
    · omega
    · omega
    · exact h'' (h 2 (by omega) (by omega))
    · exact h'' (h 3 (by omega) (by omega))
  · rintro ⟨k, hk2, hkn, hk⟩
    unfold runeT
    rw [if_pos]
    have : runeN (s.get! i).toNat ≤ 4 := by unfold runeN; split <;> (try split) <;> (try split) <;> omega
    right; right; right; right
    by_cases e : k = 2
    · subst e; left; exact ⟨by omega, hk⟩
    · obtain rfl : k = 3 := by omega
      right; exact ⟨by omega, hk⟩
/-- the decoder over numbers -/
def decN (b0 b1 b2 b3 : Nat) (c1 c2 c3 : Bool) : Nat × Nat :=
  if b0 < 128 then (b0, 1)
  else if b0 / 32 == 6 && c1 then (if b0 % 32 * 64 + b1 % 64 ≥ 128 then (b0 % 32 * 64 + b1 % 64, 2) else (65533, 1))
  else if b0 / 16 == 14 && c1 && c2 then (if b0 % 16 * 4096 + b1 % 64 * 64 + b2 % 64 ≥ 2048 && Utf8.valid (b0 % 16 * 4096 + b1 % 64 * 64 + b2 % 64 : Nat) then (b0 % 16 * 4096 + b1 % 64 * 64 + b2 % 64, 3) else (65533, 1))
  else if b0 / 8 == 30 && c1 && c2 && c3 then (if b0 % 8 * 262144 + b1 % 64 * 4096 + b2 % 64 * 64 + b3 % 64 ≥ 65536 && Utf8.valid (b0 % 8 * 262144 + b1 % 64 * 4096 + b2 % 64 * 64 + b3 % 64 : Nat) then (b0 % 8 * 262144 + b1 % 64 * 4096 + b2 % 64 * 64 + b3 % 64, 4) else (65533, 1))
  else (65533, 1)
def okN (n b1 b2 b3 lo hi : Nat) (i1 i2 i3 : Prop) [Decidable i1] [Decidable i2] [Decidable i3] : Nat :=
  if i1 ∧ lo ≤ b1 ∧ b1 ≤ hi ∧ (3 ≤ n → i2 ∧ 128 ≤ b2 ∧ b2 ≤ 191) ∧ (4 ≤ n → i3 ∧ 128 ≤ b3 ∧ b3 ≤ 191) then n else 0
def rl (d : Nat × Nat) : Nat := if d.1 < 128 ∨ (d.1 = 65533 ∧ d.2 = 1) then 0 else d.2
theorem rl_err : rl (65533, 1) = 0 := by decide
theorem rl_ok {c n : Nat} (h : 128 ≤ c) (hn : n ≠ 1) : rl (c, n) = n := by unfold rl; rw [if_neg (by simp only; omega)]
theorem valid_iff (c : Nat) : Utf8.valid (c : Int) = true ↔ c < 55296 ∨ (57344 ≤ c ∧ c ≤ 1114111) := by
  unfold Utf8.valid
  simp
  omega
theorem cnt (b : Nat) : (b / 64 == 2) = true ↔ 128 ≤ b ∧ b ≤ 191 := by simp; omega
theorem decN_two {b0 b1 b2 b3 : Nat} {i1 : Prop} {c2 c3 : Bool} [Decidable i1] (h : 194 ≤ b0 ∧ b0 ≤ 223) :
    rl (decN b0 b1 b2 b3 (decide i1 && b1 / 64 == 2) c2 c3) = if i1 ∧ 128 ≤ b1 ∧ b1 ≤ 191 then 2 else 0 := by
  unfold decN
  have e0 : (b0 / 32 == 6) = true := by simp; omega
  have e1 : (b0 / 16 == 14) = false := by simp; omega
  have e2 : (b0 / 8 == 30) = false := by simp; omega
  rw [if_neg (by omega), e0, e1, e2]
  simp only [Bool.true_and, Bool.false_and, Bool.false_eq_true, if_false, Bool.and_eq_true, decide_eq_true_eq, cnt]
  by_cases hc : i1 ∧ 128 ≤ b1 ∧ b1 ≤ 191
  · rw [if_pos hc, if_pos hc, if_pos (by omega)]; exact rl_ok (by omega) (by omega)
  · rw [if_neg hc, if_neg hc]; exact rl_err
theorem decN_three {b0 b1 b2 b3 : Nat} {i1 i2 : Prop} {c3 : Bool} [Decidable i1] [Decidable i2] (h : 224 ≤ b0 ∧ b0 ≤ 239) (h1 : b1 < 256) (h2 : b2 < 256) :
    rl (decN b0 b1 b2 b3 (decide i1 && b1 / 64 == 2) (decide i2 && b2 / 64 == 2) c3) = if (i1 ∧ 128 ≤ b1 ∧ b1 ≤ 191) ∧ (i2 ∧ 128 ≤ b2 ∧ b2 ≤ 191) ∧ runeLo b0 ≤ b1 ∧ b1 ≤ runeHi b0 then 3 else 0 := by
  unfold decN
  have e0 : (b0 / 32 == 6) = false := by simp; omega
  have e1 : (b0 / 16 == 14) = true := by simp; omega
  have e2 : (b0 / 8 == 30) = false := by simp; omega
  rw [if_neg (by omega), e0, e1, e2]
  simp only [Bool.true_and, Bool.false_and, Bool.false_eq_true, if_false, Bool.and_eq_true, decide_eq_true_eq, cnt, valid_iff]
  by_cases hc : (i1 ∧ 128 ≤ b1 ∧ b1 ≤ 191) ∧ (i2 ∧ 128 ≤ b2 ∧ b2 ≤ 191)
  · rw [if_pos hc]
    obtain ⟨⟨hi1, h11, h12⟩, ⟨hi2, h21, h22⟩⟩ := hc
    by_cases ha : b0 = 224
    · subst ha
      by_cases hl : 160 ≤ b1
      · rw [if_pos (by omega), if_pos ⟨⟨hi1, h11, h12⟩, ⟨hi2, h21, h22⟩, hl, by simpa [runeHi] using h12⟩]; exact rl_ok (by omega) (by omega)
      · rw [if_neg (by omega), if_neg (by rintro ⟨_, _, h3, _⟩; exact hl h3)]; exact rl_err
    · by_cases hb : b0 = 237
      · subst hb
        by_cases hl : b1 ≤ 159
        · rw [if_pos (by omega), if_pos ⟨⟨hi1, h11, h12⟩, ⟨hi2, h21, h22⟩, by simpa [runeLo] using h11, hl⟩]; exact rl_ok (by omega) (by omega)
        · rw [if_neg (by omega), if_neg (by rintro ⟨_, _, _, h3⟩; exact hl h3)]; exact rl_err
      · have hlo : runeLo b0 = 128 := by unfold runeLo; rw [if_neg ha, if_neg (by omega)]
        have hhi : runeHi b0 = 191 := by unfold runeHi; rw [if_neg hb, if_neg (by omega)]
        rw [hlo, hhi, if_pos (by omega), if_pos ⟨⟨hi1, h11, h12⟩, ⟨hi2, h21, h22⟩, h11, h12⟩]; exact rl_ok (by omega) (by omega)
  · rw [if_neg hc, if_neg (fun h => hc ⟨h.1, h.2.1⟩)]; exact rl_err
theorem decN_four {b0 b1 b2 b3 : Nat} {i1 i2 i3 : Prop} [Decidable i1] [Decidable i2] [Decidable i3] (h : 240 ≤ b0 ∧ b0 ≤ 244) (h1 : b1 < 256) (h2 : b2 < 256) (h3 : b3 < 256) :
    rl (decN b0 b1 b2 b3 (decide i1 && b1 / 64 == 2) (decide i2 && b2 / 64 == 2) (decide i3 && b3 / 64 == 2)) = if (i1 ∧ 128 ≤ b1 ∧ b1 ≤ 191) ∧ (i2 ∧ 128 ≤ b2 ∧ b2 ≤ 191) ∧ (i3 ∧ 128 ≤ b3 ∧ b3 ≤ 191) ∧ runeLo b0 ≤ b1 ∧ b1 ≤ runeHi b0 then 4 else 0 := by
  unfold decN
  have e0 : (b0 / 32 == 6) = false := by simp; omega
  have e1 : (b0 / 16 == 14) = false := by simp; omega
  have e2 : (b0 / 8 == 30) = true := by simp; omega
  rw [if_neg (by omega), e0, e1, e2]
  simp only [Bool.true_and, Bool.false_and, Bool.false_eq_true, if_false, Bool.and_eq_true, decide_eq_true_eq, cnt, valid_iff]
  by_cases hc : ((i1 ∧ 128 ≤ b1 ∧ b1 ≤ 191) ∧ (i2 ∧ 128 ≤ b2 ∧ b2 ≤ 191)) ∧ (i3 ∧ 128 ≤ b3 ∧ b3 ≤ 191)
  · rw [if_pos hc]
    obtain ⟨⟨⟨hi1, h11, h12⟩, ⟨hi2, h21, h22⟩⟩, ⟨hi3, h31, h32⟩⟩ := hc
    by_cases ha : b0 = 240
    · subst ha
      by_cases hl : 144 ≤ b1
      · rw [if_pos (by omega), if_pos ⟨⟨hi1, h11, h12⟩, ⟨hi2, h21, h22⟩, ⟨hi3, h31, h32⟩, hl, by simpa [runeHi] using h12⟩]; exact rl_ok (by omega) (by omega)
      · rw [if_neg (by omega), if_neg (by rintro ⟨_, _, _, h3, _⟩; exact hl h3)]; exact rl_err
    · by_cases hb : b0 = 244
      · subst hb
        by_cases hl : b1 ≤ 143
        · rw [if_pos (by omega), if_pos ⟨⟨hi1, h11, h12⟩, ⟨hi2, h21, h22⟩, ⟨hi3, h31, h32⟩, by simpa [runeLo] using h11, hl⟩]; exact rl_ok (by omega) (by omega)
        · rw [if_neg (by omega), if_neg (by rintro ⟨_, _, _, _, h3⟩; exact hl h3)]; exact rl_err
      · have hlo : runeLo b0 = 128 := by unfold runeLo; rw [if_neg (by omega), if_neg ha]
        have hhi : runeHi b0 = 191 := by unfold runeHi; rw [if_neg (by omega), if_neg hb]
        rw [hlo, hhi, if_pos (by omega), if_pos ⟨⟨hi1, h11, h12⟩, ⟨hi2, h21, h22⟩, ⟨hi3, h31, h32⟩, h11, h12⟩]; exact rl_ok (by omega) (by omega)
  · rw [if_neg hc, if_neg (fun h => hc ⟨⟨h.1, h.2.1⟩, h.2.2.1⟩)]; exact rl_err
theorem decN_no {b0 b1 b2 b3 : Nat} {c1 c2 c3 : Bool} (h : b0 < 194 ∨ 244 < b0) (hb : b0 < 256) (h1 : b1 < 256) (h2 : b2 < 256) : rl (decN b0 b1 b2 b3 c1 c2 c3) = 0 := by
  unfold decN
  by_cases h8 : b0 < 128
  · rw [if_pos h8]; unfold rl; rw [if_pos (.inl h8)]
  · have e1 : (b0 / 16 == 14) = false := by simp; omega
    rw [if_neg h8, e1]
    simp only [Bool.false_and, Bool.false_eq_true, if_false]
    by_cases h32 : b0 / 32 = 6
    · have e0 : (b0 / 32 == 6) = true := by simp [h32]
      have e2 : (b0 / 8 == 30) = false := by simp; omega
      rw [e0, e2]
      simp only [Bool.true_and, Bool.false_and, Bool.false_eq_true, if_false]
      split
      · rw [if_neg (by omega)]; exact rl_err
      · exact rl_err
    · have e0 : (b0 / 32 == 6) = false := by simp [h32]
      rw [e0]
      simp only [Bool.false_and, Bool.false_eq_true, if_false]
      split
      · rename_i hc
        simp only [Bool.and_eq_true, beq_iff_eq] at hc
        have hno : ¬ ((decide (b0 % 8 * 262144 + b1 % 64 * 4096 + b2 % 64 * 64 + b3 % 64 ≥ 65536) && Utf8.valid (b0 % 8 * 262144 + b1 % 64 * 4096 + b2 % 64 * 64 + b3 % 64 : Nat)) = true) := by
          rw [Bool.and_eq_true, valid_iff, decide_eq_true_eq]
          omega
        rw [if_neg hno]; exact rl_err
      · exact rl_err
theorem decode_N (s : ByteArray) (i : Nat) : Utf8.decode s i = decN (s.get! i).toNat (s.get! (i + 1)).toNat (s.get! (i + 2)).toNat (s.get! (i + 3)).toNat
    (decide (i + 1 < s.size) && (s.get! (i + 1)).toNat / 64 == 2) (decide (i + 2 < s.size) && (s.get! (i + 2)).toNat / 64 == 2) (decide (i + 3 < s.size) && (s.get! (i + 3)).toNat / 64 == 2) := rfl
theorem rune_eq {s : ByteArray} {i : Nat} : runeL s i = runeT s i := by
  have hb0 := (s.get! i).toNat_lt
  have hb1 := (s.get! (i + 1)).toNat_lt
  have hb2 := (s.get! (i + 2)).toNat_lt
  have hb3 := (s.get! (i + 3)).toNat_lt
  have e : runeL s i = rl (Utf8.decode s i) := rfl
  rw [e, decode_N]
  unfold runeT contB
  generalize (s.get! i).toNat = b0 at *
  generalize (s.get! (i + 1)).toNat = b1 at *
  by_cases hno : b0 < 194 ∨ 244 < b0
  · have hn : runeN b0 = 0 := by unfold runeN; rw [if_neg (by omega), if_neg (by omega), if_neg (by omega)]
    rw [decN_no hno hb0 hb1 hb2, if_pos (.inl hn)]
  · by_cases h2 : b0 ≤ 223
    · have hn : runeN b0 = 2 := by unfold runeN; rw [if_pos (by omega)]
      have hlo : runeLo b0 = 128 := by unfold runeLo; rw [if_neg (by omega), if_neg (by omega)]
      have hhi : runeHi b0 = 191 := by unfold runeHi; rw [if_neg (by omega), if_neg (by omega)]
      rw [decN_two (by omega), hn, hlo, hhi]
      by_cases hc : i + 1 < s.size ∧ 128 ≤ b1 ∧ b1 ≤ 191
      · rw [if_pos hc, if_neg (by omega)]
      · rw [if_neg hc, if_pos (by omega)]
    · by_cases h3 : b0 ≤ 239
      · have hn : runeN b0 = 3 := by unfold runeN; rw [if_neg (by omega), if_pos (by omega)]
        have hlo : 128 ≤ runeLo b0 := by unfold runeLo; split <;> (try split) <;> omega
        have hhi : runeHi b0 ≤ 191 := by unfold runeHi; split <;> (try split) <;> omega
        rw [decN_three (by omega) hb1 hb2, hn]
        by_cases hc : (i + 1 < s.size ∧ 128 ≤ b1 ∧ b1 ≤ 191) ∧ (i + 2 < s.size ∧ 128 ≤ (s.get! (i + 2)).toNat ∧ (s.get! (i + 2)).toNat ≤ 191) ∧ runeLo b0 ≤ b1 ∧ b1 ≤ runeHi b0
        · rw [if_pos hc, if_neg (by omega)]
        · rw [if_neg hc, if_pos (by omega)]
      · have hn : runeN b0 = 4 := by unfold runeN; rw [if_neg (by omega), if_neg (by omega), if_pos (by omega)]
        have hlo : 128 ≤ runeLo b0 := by unfold runeLo; split <;> (try split) <;> omega
        have hhi : runeHi b0 ≤ 191 := by unfold runeHi; split <;> (try split) <;> omega
        rw [decN_four (by omega) hb1 hb2 hb3, hn]
        by_cases hc : (i + 1 < s.size ∧ 128 ≤ b1 ∧ b1 ≤ 191) ∧ (i + 2 < s.size ∧ 128 ≤ (s.get! (i + 2)).toNat ∧ (s.get! (i + 2)).toNat ≤ 191) ∧ (i + 3 < s.size ∧ 128 ≤ (s.get! (i + 3)).toNat ∧ (s.get! (i + 3)).toNat ≤ 191) ∧ runeLo b0 ≤ b1 ∧ b1 ≤ runeHi b0
        · rw [if_pos hc, if_neg (by omega)]
        · rw [if_neg hc, if_pos (by omega)]

theorem runeAt_any (s : ByteArray) (i : Nat) (w : World) (hi : i < s.size) (hs : s.size < 2 ^ 40) :
    Calls Tryd.prog 157 #[.string s, .int .i64 i] w fun e w' => e = .returned (.int .i64 (runeT s i)) ∧ w = w' := by
  obtain ⟨n0, hn0⟩ : ∃ n0, s[i].toNat = n0 := ⟨_, rfl⟩
  have g0 : (s.get! i).toNat = n0 := by rw [get_in s _ hi, hn0]
  have hlt0 : n0 < 256 := by rw [← hn0]; exact s[i].toNat_lt
  have hc : (n0 < 194 ∨ 244 < n0) ∨ (194 ≤ n0 ∧ n0 ≤ 223) ∨ n0 = 224 ∨ (225 ≤ n0 ∧ n0 ≤ 236) ∨ n0 = 237 ∨ (238 ≤ n0 ∧ n0 ≤ 239) ∨ n0 = 240 ∨ (241 ≤ n0 ∧ n0 ≤ 243) ∨ n0 = 244 := by
    by_cases h1 : n0 < 194
    · exact .inl (.inl h1)
    by_cases h2 : 244 < n0
    · exact .inl (.inr h2)
    by_cases h3 : n0 ≤ 223
    · exact .inr (.inl ⟨by omega, h3⟩)
    by_cases h4 : n0 = 224
    · exact .inr (.inr (.inl h4))
    by_cases h5 : n0 ≤ 236
    · exact .inr (.inr (.inr (.inl ⟨by omega, h5⟩)))
    by_cases h6 : n0 = 237
    · exact .inr (.inr (.inr (.inr (.inl h6))))
    by_cases h7 : n0 ≤ 239
    · exact .inr (.inr (.inr (.inr (.inr (.inl ⟨by omega, h7⟩)))))
    by_cases h8 : n0 = 240
    · exact .inr (.inr (.inr (.inr (.inr (.inr (.inl h8))))))
    by_cases h9 : n0 ≤ 243
    · exact .inr (.inr (.inr (.inr (.inr (.inr (.inr (.inl ⟨by omega, h9⟩)))))))
    · exact .inr (.inr (.inr (.inr (.inr (.inr (.inr (.inr (by omega))))))))
  rcases hc with hc | ⟨hc1, hc2⟩ | rfl | ⟨hc1, hc2⟩ | rfl | ⟨hc1, hc2⟩ | rfl | ⟨hc1, hc2⟩ | rfl
  · have hv : runeT s i = 0 := by
      unfold runeT
      rw [if_pos (.inl (by rw [g0]; unfold runeN; rw [if_neg (by omega), if_neg (by omega), if_neg (by omega)]))]
    rw [hv]
    clear hv g0
    rcases hc with hc | hc
    · skip
      go_enter Tryd.func157, Tryd.ntmps157
      go_wp2
      go_ret
      exact ⟨rfl, rfl⟩
    · skip
      go_enter Tryd.func157, Tryd.ntmps157
      go_wp2
      go_ret
      exact ⟨rfl, rfl⟩
  · skip
    -- 2: n, 128: low, 191: high
    by_cases h1 : i + 2 ≤ s.size
    · have g1 : (s.get! (i + 1)).toNat = s[i + 1].toNat := by rw [get_in s _ (by omega)]
      obtain ⟨b1, hb1⟩ : ∃ b1, s[i + 1].toNat = b1 := ⟨_, rfl⟩
      rw [hb1] at g1
      by_cases h2 : b1 < 128
      · have hv : runeT s i = 0 := by unfold runeT; rw [if_pos]; rw [g0]; right; right; left; rw [g1]; first | exact h2 | (simp only [runeLo]; split <;> (try split) <;> omega)
        rw [hv]
        clear hv g0 g1
        go_enter Tryd.func157, Tryd.ntmps157
        go_wp2
        go_ret
        exact ⟨rfl, rfl⟩
      · by_cases h3 : 191 < b1
        · have hv : runeT s i = 0 := by unfold runeT; rw [if_pos]; rw [g0]; right; right; right; left; rw [g1]; first | exact h3 | (simp only [runeHi]; split <;> (try split) <;> omega)
          rw [hv]
          clear hv g0 g1
          go_enter Tryd.func157, Tryd.ntmps157
          go_wp2
          go_ret
          exact ⟨rfl, rfl⟩
        · have hn : runeN n0 = 2 := by first | rfl | (unfold runeN; split <;> (try split) <;> (try split) <;> omega)
          have hall := runeT_all (s := s) (i := i) (by rw [g0, hn]; decide) (by rw [g0, hn]; exact h1) (by rw [g0, g1]; first | exact Nat.le_of_not_lt h2 | (simp only [runeLo]; split <;> (try split) <;> omega)) (by rw [g0, g1]; first | exact Nat.le_of_not_lt h3 | (simp only [runeHi]; split <;> (try split) <;> omega))
          rw [g0, hn] at hall
          have h2' : 128 ≤ b1 := by omega
          have h3' : b1 ≤ 191 := by omega
          clear g0 g1 hn h2 h3
          have HA := Lib.hid hall; clear hall
          obtain ⟨v, hv⟩ : ∃ v, runeT s i = v := ⟨_, rfl⟩
          rw [hv] at HA
          rw [hv]
          clear hv
          go_enter Tryd.func157, Tryd.ntmps157
          go_wp2
          go_loopw [9] (fun j wr => ∃ k : Nat, j = .int .i64 k ∧ wr = w ∧ 2 ≤ k ∧ k ≤ 2 ∧ Hid (∀ k', 2 ≤ k' → k' < k → contB s (i + k'))) (fun j _ => 2 - (intOf j).toNat)
          case atStart => exact ⟨2, rfl, rfl, by omega, by omega, Lib.hid (fun k' h1 h2 => by omega)⟩
          case round =>
            obtain ⟨k, rfl, rfl, hk2, hkn, hc⟩ := hrel
            by_cases hlt : k < 2
            · exfalso; omega
            · obtain rfl : k = 2 := by omega
              have hv : v = 2 := HA.out.1 hc.out
              subst hv
              go_wp2
              go_ret
              exact ⟨rfl, rfl⟩
    · have hv : runeT s i = 0 := by unfold runeT; rw [if_pos]; rw [g0]; right; left; first | (simp only [runeN]; omega) | (unfold runeN; split <;> (try split) <;> (try split) <;> omega)
      rw [hv]
      clear hv g0
      go_enter Tryd.func157, Tryd.ntmps157
      go_wp2
      go_ret
      exact ⟨rfl, rfl⟩
  · skip
    -- 3: n, 160: low, 191: high
    by_cases h1 : i + 3 ≤ s.size
    · have g1 : (s.get! (i + 1)).toNat = s[i + 1].toNat := by rw [get_in s _ (by omega)]
      obtain ⟨b1, hb1⟩ : ∃ b1, s[i + 1].toNat = b1 := ⟨_, rfl⟩
      rw [hb1] at g1
      by_cases h2 : b1 < 160
      · have hv : runeT s i = 0 := by unfold runeT; rw [if_pos]; rw [g0]; right; right; left; rw [g1]; first | exact h2 | (simp only [runeLo]; split <;> (try split) <;> omega)
        rw [hv]
        clear hv g0 g1
        go_enter Tryd.func157, Tryd.ntmps157
        go_wp2
        go_ret
        exact ⟨rfl, rfl⟩
      · by_cases h3 : 191 < b1
        · have hv : runeT s i = 0 := by unfold runeT; rw [if_pos]; rw [g0]; right; right; right; left; rw [g1]; first | exact h3 | (simp only [runeHi]; split <;> (try split) <;> omega)
          rw [hv]
          clear hv g0 g1
          go_enter Tryd.func157, Tryd.ntmps157
          go_wp2
          go_ret
          exact ⟨rfl, rfl⟩
        · have hn : runeN 224 = 3 := by first | rfl | (unfold runeN; split <;> (try split) <;> (try split) <;> omega)
          have hall := runeT_all (s := s) (i := i) (by rw [g0, hn]; decide) (by rw [g0, hn]; exact h1) (by rw [g0, g1]; first | exact Nat.le_of_not_lt h2 | (simp only [runeLo]; split <;> (try split) <;> omega)) (by rw [g0, g1]; first | exact Nat.le_of_not_lt h3 | (simp only [runeHi]; split <;> (try split) <;> omega))
          rw [g0, hn] at hall
          have h2' : 160 ≤ b1 := by omega
          have h3' : b1 ≤ 191 := by omega
          clear g0 g1 hn h2 h3
          have HA := Lib.hid hall; clear hall
          obtain ⟨v, hv⟩ : ∃ v, runeT s i = v := ⟨_, rfl⟩
          rw [hv] at HA
          rw [hv]
          clear hv
          go_enter Tryd.func157, Tryd.ntmps157
          go_wp2
          go_loopw [9] (fun j wr => ∃ k : Nat, j = .int .i64 k ∧ wr = w ∧ 2 ≤ k ∧ k ≤ 3 ∧ Hid (∀ k', 2 ≤ k' → k' < k → contB s (i + k'))) (fun j _ => 3 - (intOf j).toNat)
          case atStart => exact ⟨2, rfl, rfl, by omega, by omega, Lib.hid (fun k' h1 h2 => by omega)⟩
          case round =>
            obtain ⟨k, rfl, rfl, hk2, hkn, hc⟩ := hrel
            by_cases hlt : k < 3
            · obtain ⟨bk, hbk⟩ : ∃ bk, s[i + k].toNat = bk := ⟨_, rfl⟩
              have hcb : contB s (i + k) ↔ 128 ≤ bk ∧ bk ≤ 191 := by unfold contB; rw [get_in s _ (by omega), hbk]
              have HCB := Lib.hid hcb; clear hcb
              by_cases hl : bk < 128
              · have hv : v = 0 := HA.out.2 ⟨k, hk2, hlt, fun h => by have := HCB.out.1 h; omega⟩
                subst hv
                go_wp2
                go_ret
                exact ⟨rfl, rfl⟩
              · by_cases hh : 191 < bk
                · have hv : v = 0 := HA.out.2 ⟨k, hk2, hlt, fun h => by have := HCB.out.1 h; omega⟩
                  subst hv
                  go_wp2
                  go_ret
                  exact ⟨rfl, rfl⟩
                · have hcb := HCB.out.2 ⟨by omega, by omega⟩
                  have HC2 := Lib.hid hcb; clear hcb
                  go_wp2
                  go_roundw
                  case rel => exact ⟨k + 1, by go_num, by first | trivial | rfl, by omega, by omega, Lib.hid (fun k' h1 h2 => by
                    by_cases e : k' = k
                    · rw [e]; exact HC2.out
                    · exact hc.out k' h1 (by omega))⟩
                  case measure => simp [intOf]; omega
            · obtain rfl : k = 3 := by omega
              have hv : v = 3 := HA.out.1 hc.out
              subst hv
              go_wp2
              go_ret
              exact ⟨rfl, rfl⟩
    · have hv : runeT s i = 0 := by unfold runeT; rw [if_pos]; rw [g0]; right; left; first | (simp only [runeN]; omega) | (unfold runeN; split <;> (try split) <;> (try split) <;> omega)
      rw [hv]
      clear hv g0
      go_enter Tryd.func157, Tryd.ntmps157
      go_wp2
      go_ret
      exact ⟨rfl, rfl⟩
  · have e1 : ((n0 : Int) == 224) = false := by simp; omega
    have e2 : ((n0 : Int) == 237) = false := by simp; omega
    -- 3: n, 128: low, 191: high
    by_cases h1 : i + 3 ≤ s.size
    · have g1 : (s.get! (i + 1)).toNat = s[i + 1].toNat := by rw [get_in s _ (by omega)]
      obtain ⟨b1, hb1⟩ : ∃ b1, s[i + 1].toNat = b1 := ⟨_, rfl⟩
      rw [hb1] at g1
      by_cases h2 : b1 < 128
      · have hv : runeT s i = 0 := by unfold runeT; rw [if_pos]; rw [g0]; right; right; left; rw [g1]; first | exact h2 | (simp only [runeLo]; split <;> (try split) <;> omega)
        rw [hv]
        clear hv g0 g1
        go_enter Tryd.func157, Tryd.ntmps157
        go_wp2
        go_ret
        exact ⟨rfl, rfl⟩
      · by_cases h3 : 191 < b1
        · have hv : runeT s i = 0 := by unfold runeT; rw [if_pos]; rw [g0]; right; right; right; left; rw [g1]; first | exact h3 | (simp only [runeHi]; split <;> (try split) <;> omega)
          rw [hv]
          clear hv g0 g1
          go_enter Tryd.func157, Tryd.ntmps157
          go_wp2
          go_ret
          exact ⟨rfl, rfl⟩
        · have hn : runeN n0 = 3 := by first | rfl | (unfold runeN; split <;> (try split) <;> (try split) <;> omega)
          have hall := runeT_all (s := s) (i := i) (by rw [g0, hn]; decide) (by rw [g0, hn]; exact h1) (by rw [g0, g1]; first | exact Nat.le_of_not_lt h2 | (simp only [runeLo]; split <;> (try split) <;> omega)) (by rw [g0, g1]; first | exact Nat.le_of_not_lt h3 | (simp only [runeHi]; split <;> (try split) <;> omega))
          rw [g0, hn] at hall
          have h2' : 128 ≤ b1 := by omega
          have h3' : b1 ≤ 191 := by omega
          clear g0 g1 hn h2 h3
          have HA := Lib.hid hall; clear hall
          obtain ⟨v, hv⟩ : ∃ v, runeT s i = v := ⟨_, rfl⟩
          rw [hv] at HA
          rw [hv]
          clear hv
          go_enter Tryd.func157, Tryd.ntmps157
          go_wp2
          go_loopw [9] (fun j wr => ∃ k : Nat, j = .int .i64 k ∧ wr = w ∧ 2 ≤ k ∧ k ≤ 3 ∧ Hid (∀ k', 2 ≤ k' → k' < k → contB s (i + k'))) (fun j _ => 3 - (intOf j).toNat)
          case atStart => exact ⟨2, rfl, rfl, by omega, by omega, Lib.hid (fun k' h1 h2 => by omega)⟩
          case round =>
            obtain ⟨k, rfl, rfl, hk2, hkn, hc⟩ := hrel
            by_cases hlt : k < 3
            · obtain ⟨bk, hbk⟩ : ∃ bk, s[i + k].toNat = bk := ⟨_, rfl⟩
              have hcb : contB s (i + k) ↔ 128 ≤ bk ∧ bk ≤ 191 := by unfold contB; rw [get_in s _ (by omega), hbk]
              have HCB := Lib.hid hcb; clear hcb
              by_cases hl : bk < 128
              · have hv : v = 0 := HA.out.2 ⟨k, hk2, hlt, fun h => by have := HCB.out.1 h; omega⟩
                subst hv
                go_wp2
                go_ret
                exact ⟨rfl, rfl⟩
              · by_cases hh : 191 < bk
                · have hv : v = 0 := HA.out.2 ⟨k, hk2, hlt, fun h => by have := HCB.out.1 h; omega⟩
                  subst hv
                  go_wp2
                  go_ret
                  exact ⟨rfl, rfl⟩
                · have hcb := HCB.out.2 ⟨by omega, by omega⟩
                  have HC2 := Lib.hid hcb; clear hcb
                  go_wp2
                  go_roundw
                  case rel => exact ⟨k + 1, by go_num, by first | trivial | rfl, by omega, by omega, Lib.hid (fun k' h1 h2 => by
                    by_cases e : k' = k
                    · rw [e]; exact HC2.out
                    · exact hc.out k' h1 (by omega))⟩
                  case measure => simp [intOf]; omega
            · obtain rfl : k = 3 := by omega
              have hv : v = 3 := HA.out.1 hc.out
              subst hv
              go_wp2
              go_ret
              exact ⟨rfl, rfl⟩
    · have hv : runeT s i = 0 := by unfold runeT; rw [if_pos]; rw [g0]; right; left; first | (simp only [runeN]; omega) | (unfold runeN; split <;> (try split) <;> (try split) <;> omega)
      rw [hv]
      clear hv g0
      go_enter Tryd.func157, Tryd.ntmps157
      go_wp2
      go_ret
      exact ⟨rfl, rfl⟩
  · skip
    -- 3: n, 128: low, 159: high
    by_cases h1 : i + 3 ≤ s.size
    · have g1 : (s.get! (i + 1)).toNat = s[i + 1].toNat := by rw [get_in s _ (by omega)]
      obtain ⟨b1, hb1⟩ : ∃ b1, s[i + 1].toNat = b1 := ⟨_, rfl⟩
      rw [hb1] at g1
      by_cases h2 : b1 < 128
      · have hv : runeT s i = 0 := by unfold runeT; rw [if_pos]; rw [g0]; right; right; left; rw [g1]; first | exact h2 | (simp only [runeLo]; split <;> (try split) <;> omega)
        rw [hv]
        clear hv g0 g1
        go_enter Tryd.func157, Tryd.ntmps157
        go_wp2
        go_ret
        exact ⟨rfl, rfl⟩
      · by_cases h3 : 159 < b1
        · have hv : runeT s i = 0 := by unfold runeT; rw [if_pos]; rw [g0]; right; right; right; left; rw [g1]; first | exact h3 | (simp only [runeHi]; split <;> (try split) <;> omega)
          rw [hv]
          clear hv g0 g1
          go_enter Tryd.func157, Tryd.ntmps157
          go_wp2
          go_ret
          exact ⟨rfl, rfl⟩
        · have hn : runeN 237 = 3 := by first | rfl | (unfold runeN; split <;> (try split) <;> (try split) <;> omega)
          have hall := runeT_all (s := s) (i := i) (by rw [g0, hn]; decide) (by rw [g0, hn]; exact h1) (by rw [g0, g1]; first | exact Nat.le_of_not_lt h2 | (simp only [runeLo]; split <;> (try split) <;> omega)) (by rw [g0, g1]; first | exact Nat.le_of_not_lt h3 | (simp only [runeHi]; split <;> (try split) <;> omega))
          rw [g0, hn] at hall
          have h2' : 128 ≤ b1 := by omega
          have h3' : b1 ≤ 159 := by omega
          clear g0 g1 hn h2 h3
          have HA := Lib.hid hall; clear hall
          obtain ⟨v, hv⟩ : ∃ v, runeT s i = v := ⟨_, rfl⟩
          rw [hv] at HA
          rw [hv]
          clear hv
          go_enter Tryd.func157, Tryd.ntmps157
          go_wp2
          go_loopw [9] (fun j wr => ∃ k : Nat, j = .int .i64 k ∧ wr = w ∧ 2 ≤ k ∧ k ≤ 3 ∧ Hid (∀ k', 2 ≤ k' → k' < k → contB s (i + k'))) (fun j _ => 3 - (intOf j).toNat)
          case atStart => exact ⟨2, rfl, rfl, by omega, by omega, Lib.hid (fun k' h1 h2 => by omega)⟩
          case round =>
            obtain ⟨k, rfl, rfl, hk2, hkn, hc⟩ := hrel
            by_cases hlt : k < 3
            · obtain ⟨bk, hbk⟩ : ∃ bk, s[i + k].toNat = bk := ⟨_, rfl⟩
              have hcb : contB s (i + k) ↔ 128 ≤ bk ∧ bk ≤ 191 := by unfold contB; rw [get_in s _ (by omega), hbk]
              have HCB := Lib.hid hcb; clear hcb
              by_cases hl : bk < 128
              · have hv : v = 0 := HA.out.2 ⟨k, hk2, hlt, fun h => by have := HCB.out.1 h; omega⟩
                subst hv
                go_wp2
                go_ret
                exact ⟨rfl, rfl⟩
              · by_cases hh : 191 < bk
                · have hv : v = 0 := HA.out.2 ⟨k, hk2, hlt, fun h => by have := HCB.out.1 h; omega⟩
                  subst hv
                  go_wp2
                  go_ret
                  exact ⟨rfl, rfl⟩
                · have hcb := HCB.out.2 ⟨by omega, by omega⟩
                  have HC2 := Lib.hid hcb; clear hcb
                  go_wp2
                  go_roundw
                  case rel => exact ⟨k + 1, by go_num, by first | trivial | rfl, by omega, by omega, Lib.hid (fun k' h1 h2 => by
                    by_cases e : k' = k
                    · rw [e]; exact HC2.out
                    · exact hc.out k' h1 (by omega))⟩
                  case measure => simp [intOf]; omega
            · obtain rfl : k = 3 := by omega
              have hv : v = 3 := HA.out.1 hc.out
              subst hv
              go_wp2
              go_ret
              exact ⟨rfl, rfl⟩
    · have hv : runeT s i = 0 := by unfold runeT; rw [if_pos]; rw [g0]; right; left; first | (simp only [runeN]; omega) | (unfold runeN; split <;> (try split) <;> (try split) <;> omega)
      rw [hv]
      clear hv g0
      go_enter Tryd.func157, Tryd.ntmps157
      go_wp2
      go_ret
      exact ⟨rfl, rfl⟩
  · have e1 : ((n0 : Int) == 224) = false := by simp; omega
    have e2 : ((n0 : Int) == 237) = false := by simp; omega
    -- 3: n, 128: low, 191: high
    by_cases h1 : i + 3 ≤ s.size
    · have g1 : (s.get! (i + 1)).toNat = s[i + 1].toNat := by rw [get_in s _ (by omega)]
      obtain ⟨b1, hb1⟩ : ∃ b1, s[i + 1].toNat = b1 := ⟨_, rfl⟩
      rw [hb1] at g1
      by_cases h2 : b1 < 128
      · have hv : runeT s i = 0 := by unfold runeT; rw [if_pos]; rw [g0]; right; right; left; rw [g1]; first | exact h2 | (simp only [runeLo]; split <;> (try split) <;> omega)
        rw [hv]
        clear hv g0 g1
        go_enter Tryd.func157, Tryd.ntmps157
        go_wp2
        go_ret
        exact ⟨rfl, rfl⟩
      · by_cases h3 : 191 < b1
        · have hv : runeT s i = 0 := by unfold runeT; rw [if_pos]; rw [g0]; right; right; right; left; rw [g1]; first | exact h3 | (simp only [runeHi]; split <;> (try split) <;> omega)
          rw [hv]
          clear hv g0 g1
          go_enter Tryd.func157, Tryd.ntmps157
          go_wp2
          go_ret
          exact ⟨rfl, rfl⟩
        · have hn : runeN n0 = 3 := by first | rfl | (unfold runeN; split <;> (try split) <;> (try split) <;> omega)
          have hall := runeT_all (s := s) (i := i) (by rw [g0, hn]; decide) (by rw [g0, hn]; exact h1) (by rw [g0, g1]; first | exact Nat.le_of_not_lt h2 | (simp only [runeLo]; split <;> (try split) <;> omega)) (by rw [g0, g1]; first | exact Nat.le_of_not_lt h3 | (simp only [runeHi]; split <;> (try split) <;> omega))
          rw [g0, hn] at hall
          have h2' : 128 ≤ b1 := by omega
          have h3' : b1 ≤ 191 := by omega
          clear g0 g1 hn h2 h3
          have HA := Lib.hid hall; clear hall
          obtain ⟨v, hv⟩ : ∃ v, runeT s i = v := ⟨_, rfl⟩
          rw [hv] at HA
          rw [hv]
          clear hv
          go_enter Tryd.func157, Tryd.ntmps157
          go_wp2
          go_loopw [9] (fun j wr => ∃ k : Nat, j = .int .i64 k ∧ wr = w ∧ 2 ≤ k ∧ k ≤ 3 ∧ Hid (∀ k', 2 ≤ k' → k' < k → contB s (i + k'))) (fun j _ => 3 - (intOf j).toNat)
          case atStart => exact ⟨2, rfl, rfl, by omega, by omega, Lib.hid (fun k' h1 h2 => by omega)⟩
          case round =>
            obtain ⟨k, rfl, rfl, hk2, hkn, hc⟩ := hrel
            by_cases hlt : k < 3
            · obtain ⟨bk, hbk⟩ : ∃ bk, s[i + k].toNat = bk := ⟨_, rfl⟩
              have hcb : contB s (i + k) ↔ 128 ≤ bk ∧ bk ≤ 191 := by unfold contB; rw [get_in s _ (by omega), hbk]
              have HCB := Lib.hid hcb; clear hcb
              by_cases hl : bk < 128
              · have hv : v = 0 := HA.out.2 ⟨k, hk2, hlt, fun h => by have := HCB.out.1 h; omega⟩
                subst hv
                go_wp2
                go_ret
                exact ⟨rfl, rfl⟩
              · by_cases hh : 191 < bk
                · have hv : v = 0 := HA.out.2 ⟨k, hk2, hlt, fun h => by have := HCB.out.1 h; omega⟩
                  subst hv
                  go_wp2
                  go_ret
                  exact ⟨rfl, rfl⟩
                · have hcb := HCB.out.2 ⟨by omega, by omega⟩
                  have HC2 := Lib.hid hcb; clear hcb
                  go_wp2
                  go_roundw
                  case rel => exact ⟨k + 1, by go_num, by first | trivial | rfl, by omega, by omega, Lib.hid (fun k' h1 h2 => by
                    by_cases e : k' = k
                    · rw [e]; exact HC2.out
                    · exact hc.out k' h1 (by omega))⟩
                  case measure => simp [intOf]; omega
            · obtain rfl : k = 3 := by omega
              have hv : v = 3 := HA.out.1 hc.out
              subst hv
              go_wp2
              go_ret
              exact ⟨rfl, rfl⟩
    · have hv : runeT s i = 0 := by unfold runeT; rw [if_pos]; rw [g0]; right; left; first | (simp only [runeN]; omega) | (unfold runeN; split <;> (try split) <;> (try split) <;> omega)
      rw [hv]
      clear hv g0
      go_enter Tryd.func157, Tryd.ntmps157
      go_wp2
      go_ret
      exact ⟨rfl, rfl⟩
  · skip
    -- 4: n, 144: low, 191: high
    by_cases h1 : i + 4 ≤ s.size
    · have g1 : (s.get! (i + 1)).toNat = s[i + 1].toNat := by rw [get_in s _ (by omega)]
      obtain ⟨b1, hb1⟩ : ∃ b1, s[i + 1].toNat = b1 := ⟨_, rfl⟩
      rw [hb1] at g1
      by_cases h2 : b1 < 144
      · have hv : runeT s i = 0 := by unfold runeT; rw [if_pos]; rw [g0]; right; right; left; rw [g1]; first | exact h2 | (simp only [runeLo]; split <;> (try split) <;> omega)
        rw [hv]
        clear hv g0 g1
        go_enter Tryd.func157, Tryd.ntmps157
        go_wp2
        go_ret
        exact ⟨rfl, rfl⟩
      · by_cases h3 : 191 < b1
        · have hv : runeT s i = 0 := by unfold runeT; rw [if_pos]; rw [g0]; right; right; right; left; rw [g1]; first | exact h3 | (simp only [runeHi]; split <;> (try split) <;> omega)
          rw [hv]
          clear hv g0 g1
          go_enter Tryd.func157, Tryd.ntmps157
          go_wp2
          go_ret
          exact ⟨rfl, rfl⟩
        · have hn : runeN 240 = 4 := by first | rfl | (unfold runeN; split <;> (try split) <;> (try split) <;> omega)
          have hall := runeT_all (s := s) (i := i) (by rw [g0, hn]; decide) (by rw [g0, hn]; exact h1) (by rw [g0, g1]; first | exact Nat.le_of_not_lt h2 | (simp only [runeLo]; split <;> (try split) <;> omega)) (by rw [g0, g1]; first | exact Nat.le_of_not_lt h3 | (simp only [runeHi]; split <;> (try split) <;> omega))
          rw [g0, hn] at hall
          have h2' : 144 ≤ b1 := by omega
          have h3' : b1 ≤ 191 := by omega
          clear g0 g1 hn h2 h3
          have HA := Lib.hid hall; clear hall
          obtain ⟨v, hv⟩ : ∃ v, runeT s i = v := ⟨_, rfl⟩
          rw [hv] at HA
          rw [hv]
          clear hv
          go_enter Tryd.func157, Tryd.ntmps157
          go_wp2
          go_loopw [9] (fun j wr => ∃ k : Nat, j = .int .i64 k ∧ wr = w ∧ 2 ≤ k ∧ k ≤ 4 ∧ Hid (∀ k', 2 ≤ k' → k' < k → contB s (i + k'))) (fun j _ => 4 - (intOf j).toNat)
          case atStart => exact ⟨2, rfl, rfl, by omega, by omega, Lib.hid (fun k' h1 h2 => by omega)⟩
          case round =>
            obtain ⟨k, rfl, rfl, hk2, hkn, hc⟩ := hrel
            by_cases hlt : k < 4
            · obtain ⟨bk, hbk⟩ : ∃ bk, s[i + k].toNat = bk := ⟨_, rfl⟩
              have hcb : contB s (i + k) ↔ 128 ≤ bk ∧ bk ≤ 191 := by unfold contB; rw [get_in s _ (by omega), hbk]
              have HCB := Lib.hid hcb; clear hcb
              by_cases hl : bk < 128
              · have hv : v = 0 := HA.out.2 ⟨k, hk2, hlt, fun h => by have := HCB.out.1 h; omega⟩
                subst hv
                go_wp2
                go_ret
                exact ⟨rfl, rfl⟩
              · by_cases hh : 191 < bk
                · have hv : v = 0 := HA.out.2 ⟨k, hk2, hlt, fun h => by have := HCB.out.1 h; omega⟩
                  subst hv
                  go_wp2
                  go_ret
                  exact ⟨rfl, rfl⟩
                · have hcb := HCB.out.2 ⟨by omega, by omega⟩
                  have HC2 := Lib.hid hcb; clear hcb
                  go_wp2
                  go_roundw
                  case rel => exact ⟨k + 1, by go_num, by first | trivial | rfl, by omega, by omega, Lib.hid (fun k' h1 h2 => by
                    by_cases e : k' = k
                    · rw [e]; exact HC2.out
                    · exact hc.out k' h1 (by omega))⟩
                  case measure => simp [intOf]; omega
            · obtain rfl : k = 4 := by omega
              have hv : v = 4 := HA.out.1 hc.out
              subst hv
              go_wp2
              go_ret
              exact ⟨rfl, rfl⟩
    · have hv : runeT s i = 0 := by unfold runeT; rw [if_pos]; rw [g0]; right; left; first | (simp only [runeN]; omega) | (unfold runeN; split <;> (try split) <;> (try split) <;> omega)
      rw [hv]
      clear hv g0
      go_enter Tryd.func157, Tryd.ntmps157
      go_wp2
      go_ret
      exact ⟨rfl, rfl⟩
  · have e1 : ((n0 : Int) == 240) = false := by simp; omega
    have e2 : ((n0 : Int) == 244) = false := by simp; omega
    -- 4: n, 128: low, 191: high
    by_cases h1 : i + 4 ≤ s.size
    · have g1 : (s.get! (i + 1)).toNat = s[i + 1].toNat := by rw [get_in s _ (by omega)]
      obtain ⟨b1, hb1⟩ : ∃ b1, s[i + 1].toNat = b1 := ⟨_, rfl⟩
      rw [hb1] at g1
      by_cases h2 : b1 < 128
      · have hv : runeT s i = 0 := by unfold runeT; rw [if_pos]; rw [g0]; right; right; left; rw [g1]; first | exact h2 | (simp only [runeLo]; split <;> (try split) <;> omega)
        rw [hv]
        clear hv g0 g1
        go_enter Tryd.func157, Tryd.ntmps157
        go_wp2
        go_ret
        exact ⟨rfl, rfl⟩
      · by_cases h3 : 191 < b1
        · have hv : runeT s i = 0 := by unfold runeT; rw [if_pos]; rw [g0]; right; right; right; left; rw [g1]; first | exact h3 | (simp only [runeHi]; split <;> (try split) <;> omega)
          rw [hv]
          clear hv g0 g1
          go_enter Tryd.func157, Tryd.ntmps157
          go_wp2
          go_ret
          exact ⟨rfl, rfl⟩
        · have hn : runeN n0 = 4 := by first | rfl | (unfold runeN; split <;> (try split) <;> (try split) <;> omega)
          have hall := runeT_all (s := s) (i := i) (by rw [g0, hn]; decide) (by rw [g0, hn]; exact h1) (by rw [g0, g1]; first | exact Nat.le_of_not_lt h2 | (simp only [runeLo]; split <;> (try split) <;> omega)) (by rw [g0, g1]; first | exact Nat.le_of_not_lt h3 | (simp only [runeHi]; split <;> (try split) <;> omega))
          rw [g0, hn] at hall
          have h2' : 128 ≤ b1 := by omega
          have h3' : b1 ≤ 191 := by omega
          clear g0 g1 hn h2 h3
          have HA := Lib.hid hall; clear hall
          obtain ⟨v, hv⟩ : ∃ v, runeT s i = v := ⟨_, rfl⟩
          rw [hv] at HA
          rw [hv]
          clear hv
          go_enter Tryd.func157, Tryd.ntmps157
          go_wp2
          go_loopw [9] (fun j wr => ∃ k : Nat, j = .int .i64 k ∧ wr = w ∧ 2 ≤ k ∧ k ≤ 4 ∧ Hid (∀ k', 2 ≤ k' → k' < k → contB s (i + k'))) (fun j _ => 4 - (intOf j).toNat)
          case atStart => exact ⟨2, rfl, rfl, by omega, by omega, Lib.hid (fun k' h1 h2 => by omega)⟩
          case round =>
            obtain ⟨k, rfl, rfl, hk2, hkn, hc⟩ := hrel
            by_cases hlt : k < 4
            · obtain ⟨bk, hbk⟩ : ∃ bk, s[i + k].toNat = bk := ⟨_, rfl⟩
              have hcb : contB s (i + k) ↔ 128 ≤ bk ∧ bk ≤ 191 := by unfold contB; rw [get_in s _ (by omega), hbk]
              have HCB := Lib.hid hcb; clear hcb
              by_cases hl : bk < 128
              · have hv : v = 0 := HA.out.2 ⟨k, hk2, hlt, fun h => by have := HCB.out.1 h; omega⟩
                subst hv
                go_wp2
                go_ret
                exact ⟨rfl, rfl⟩
              · by_cases hh : 191 < bk
                · have hv : v = 0 := HA.out.2 ⟨k, hk2, hlt, fun h => by have := HCB.out.1 h; omega⟩
                  subst hv
                  go_wp2
                  go_ret
                  exact ⟨rfl, rfl⟩
                · have hcb := HCB.out.2 ⟨by omega, by omega⟩
                  have HC2 := Lib.hid hcb; clear hcb
                  go_wp2
                  go_roundw
                  case rel => exact ⟨k + 1, by go_num, by first | trivial | rfl, by omega, by omega, Lib.hid (fun k' h1 h2 => by
                    by_cases e : k' = k
                    · rw [e]; exact HC2.out
                    · exact hc.out k' h1 (by omega))⟩
                  case measure => simp [intOf]; omega
            · obtain rfl : k = 4 := by omega
              have hv : v = 4 := HA.out.1 hc.out
              subst hv
              go_wp2
              go_ret
              exact ⟨rfl, rfl⟩
    · have hv : runeT s i = 0 := by unfold runeT; rw [if_pos]; rw [g0]; right; left; first | (simp only [runeN]; omega) | (unfold runeN; split <;> (try split) <;> (try split) <;> omega)
      rw [hv]
      clear hv g0
      go_enter Tryd.func157, Tryd.ntmps157
      go_wp2
      go_ret
      exact ⟨rfl, rfl⟩
  · skip
    -- 4: n, 128: low, 143: high
    by_cases h1 : i + 4 ≤ s.size
    · have g1 : (s.get! (i + 1)).toNat = s[i + 1].toNat := by rw [get_in s _ (by omega)]
      obtain ⟨b1, hb1⟩ : ∃ b1, s[i + 1].toNat = b1 := ⟨_, rfl⟩
      rw [hb1] at g1
      by_cases h2 : b1 < 128
      · have hv : runeT s i = 0 := by unfold runeT; rw [if_pos]; rw [g0]; right; right; left; rw [g1]; first | exact h2 | (simp only [runeLo]; split <;> (try split) <;> omega)
        rw [hv]
        clear hv g0 g1
        go_enter Tryd.func157, Tryd.ntmps157
        go_wp2
        go_ret
        exact ⟨rfl, rfl⟩
      · by_cases h3 : 143 < b1
        · have hv : runeT s i = 0 := by unfold runeT; rw [if_pos]; rw [g0]; right; right; right; left; rw [g1]; first | exact h3 | (simp only [runeHi]; split <;> (try split) <;> omega)
          rw [hv]
          clear hv g0 g1
          go_enter Tryd.func157, Tryd.ntmps157
          go_wp2
          go_ret
          exact ⟨rfl, rfl⟩
        · have hn : runeN 244 = 4 := by first | rfl | (unfold runeN; split <;> (try split) <;> (try split) <;> omega)
          have hall := runeT_all (s := s) (i := i) (by rw [g0, hn]; decide) (by rw [g0, hn]; exact h1) (by rw [g0, g1]; first | exact Nat.le_of_not_lt h2 | (simp only [runeLo]; split <;> (try split) <;> omega)) (by rw [g0, g1]; first | exact Nat.le_of_not_lt h3 | (simp only [runeHi]; split <;> (try split) <;> omega))
          rw [g0, hn] at hall
          have h2' : 128 ≤ b1 := by omega
          have h3' : b1 ≤ 143 := by omega
          clear g0 g1 hn h2 h3
          have HA := Lib.hid hall; clear hall
          obtain ⟨v, hv⟩ : ∃ v, runeT s i = v := ⟨_, rfl⟩
          rw [hv] at HA
          rw [hv]
          clear hv
          go_enter Tryd.func157, Tryd.ntmps157
          go_wp2
          go_loopw [9] (fun j wr => ∃ k : Nat, j = .int .i64 k ∧ wr = w ∧ 2 ≤ k ∧ k ≤ 4 ∧ Hid (∀ k', 2 ≤ k' → k' < k → contB s (i + k'))) (fun j _ => 4 - (intOf j).toNat)
          case atStart => exact ⟨2, rfl, rfl, by omega, by omega, Lib.hid (fun k' h1 h2 => by omega)⟩
          case round =>
            obtain ⟨k, rfl, rfl, hk2, hkn, hc⟩ := hrel
            by_cases hlt : k < 4
            · obtain ⟨bk, hbk⟩ : ∃ bk, s[i + k].toNat = bk := ⟨_, rfl⟩
              have hcb : contB s (i + k) ↔ 128 ≤ bk ∧ bk ≤ 191 := by unfold contB; rw [get_in s _ (by omega), hbk]
              have HCB := Lib.hid hcb; clear hcb
              by_cases hl : bk < 128
              · have hv : v = 0 := HA.out.2 ⟨k, hk2, hlt, fun h => by have := HCB.out.1 h; omega⟩
                subst hv
                go_wp2
                go_ret
                exact ⟨rfl, rfl⟩
              · by_cases hh : 191 < bk
                · have hv : v = 0 := HA.out.2 ⟨k, hk2, hlt, fun h => by have := HCB.out.1 h; omega⟩
                  subst hv
                  go_wp2
                  go_ret
                  exact ⟨rfl, rfl⟩
                · have hcb := HCB.out.2 ⟨by omega, by omega⟩
                  have HC2 := Lib.hid hcb; clear hcb
                  go_wp2
                  go_roundw
                  case rel => exact ⟨k + 1, by go_num, by first | trivial | rfl, by omega, by omega, Lib.hid (fun k' h1 h2 => by
                    by_cases e : k' = k
                    · rw [e]; exact HC2.out
                    · exact hc.out k' h1 (by omega))⟩
                  case measure => simp [intOf]; omega
            · obtain rfl : k = 4 := by omega
              have hv : v = 4 := HA.out.1 hc.out
              subst hv
              go_wp2
              go_ret
              exact ⟨rfl, rfl⟩
    · have hv : runeT s i = 0 := by unfold runeT; rw [if_pos]; rw [g0]; right; left; first | (simp only [runeN]; omega) | (unfold runeN; split <;> (try split) <;> (try split) <;> omega)
      rw [hv]
      clear hv g0
      go_enter Tryd.func157, Tryd.ntmps157
      go_wp2
      go_ret
      exact ⟨rfl, rfl⟩
end Go.Proofs.YtgplagdehfhffaaDoor
