/-
  The plain law of LexPlaces: places rise; behind a blank whatever follows changes nothing of what stood ahead.
-/
import Derived.Test.YtphgglnkdfndiaaDoorLexG
namespace Go.Proofs.YtphgglnkdfndiaaDoor
open Go Go.RowKit Go.Mine
set_option maxHeartbeats 1000000
set_option maxRecDepth 100000
set_option linter.unusedVariables false

/-- places rise from i on, below n; kinds are those of tokens -/
def Rises (n : Nat) : Nat → List Tok → Prop
  | _, [] => True
  | i, t :: ts => i ≤ t.at_ ∧ t.at_ < n ∧ 1 ≤ t.kind ∧ t.kind ≤ 13 ∧ Rises n (t.at_ + 1) ts
theorem Rises.mono {n i j : Nat} {ts : List Tok} (h : Rises n j ts) (hij : i ≤ j) : Rises n i ts := by
  cases ts with
  | nil => trivial
  | cons t ts => exact ⟨Nat.le_trans hij h.1, h.2⟩
theorem scanGo_rises {s : ByteArray} : ∀ (f i : Nat), i ≤ s.size → Rises s.size i (scanGo s f i).1 ∧ (scanGo s f i).2.1 ≤ s.size
  | 0, i, _ => by simp [scanGo, Rises]
  | f + 1, i, hi => by
    rw [scanGo]
    by_cases h : i < s.size
    · rw [dif_pos h]
      by_cases hb : s[i] = 32 ∨ s[i] = 9 ∨ s[i] = 10 ∨ s[i] = 13
      · rw [if_pos hb]
        have := scanGo_rises (s := s) f (i + 1) h
        exact ⟨this.1.mono (by omega), this.2⟩
      rw [if_neg hb]
      by_cases hc : s[i] = 37
      · rw [if_pos hc]
        have := scanGo_rises (s := s) f (cmtE s i) (cmtE_le hi)
        exact ⟨this.1.mono (Nat.le_of_lt (cmtE_pos h hc)), this.2⟩
      rw [if_neg hc]
      by_cases hq : s[i] = 34
      · rw [if_pos hq]
        have hle := qGo_le (s := s) (s.size + 1) (i + 1) [] (by omega)
        have hle2 : (quoteE s (i + 1)).2.1 ≤ s.size ∧ ((quoteE s (i + 1)).2.2 = true → i + 1 < (quoteE s (i + 1)).2.1) := hle.2
        by_cases hok : (quoteE s (i + 1)).2.2 = true
        · rw [if_pos hok]
          have := scanGo_rises (s := s) f (quoteE s (i + 1)).2.1 hle2.1
          exact ⟨⟨Nat.le_refl _, h, by simp, by simp, this.1.mono (by have := hle2.2 hok; show i + 1 ≤ _; omega)⟩, this.2⟩
        · rw [if_neg hok]
          exact ⟨trivial, hle2.1⟩
      rw [if_neg hq]
      by_cases hw : (wordL s i).1 ≠ 0
      · rw [if_pos hw]
        have hp := wordL_pos hi hw
        have := scanGo_rises (s := s) f (wordL s i).2 hp.2.1
        exact ⟨⟨Nat.le_refl _, h, by show 1 ≤ (wordL s i).1; omega, by show (wordL s i).1 ≤ 13; omega, this.1.mono hp.1⟩, this.2⟩
      rw [if_neg hw]
      have hm := markL_le (s.data.toList.drop i)
      rw [List.length_drop, ← Lib.size_eq] at hm
      by_cases hk : (markL (s.data.toList.drop i)).1 ≠ 0
      · rw [if_pos hk]
        have := scanGo_rises (s := s) f (i + (markL (s.data.toList.drop i)).2) (by omega)
        exact ⟨⟨Nat.le_refl _, h, by show 1 ≤ (markL _).1; omega, by show (markL _).1 ≤ 13; omega, this.1.mono (by show i + 1 ≤ _; have := hm.2.2 hk; omega)⟩, this.2⟩
      · rw [if_neg hk]
        exact ⟨trivial, hi⟩
    · rw [dif_neg h]; simp [Rises]

theorem scanGo_place {s : ByteArray} : ∀ (f i : Nat), i ≤ s.size → (scanGo s f i).2.2 ≠ 0 → i ≤ (scanGo s f i).2.1
  | 0, i, _, h => by simp [scanGo] at h
  | f + 1, i, hi, h => by
    rw [scanGo] at *
    by_cases hl : i < s.size
    · rw [dif_pos hl] at *
      by_cases hb : s[i] = 32 ∨ s[i] = 9 ∨ s[i] = 10 ∨ s[i] = 13
      · rw [if_pos hb] at *
        have := scanGo_place (s := s) f (i + 1) hl h
        omega
      rw [if_neg hb] at *
      by_cases hc : s[i] = 37
      · rw [if_pos hc] at *
        have := scanGo_place (s := s) f (cmtE s i) (cmtE_le hi) h
        have := cmtE_pos hl hc
        omega
      rw [if_neg hc] at *
      by_cases hq : s[i] = 34
      · rw [if_pos hq] at *
        have hle := qGo_le (s := s) (s.size + 1) (i + 1) [] (by omega)
        have hle2 : i + 1 ≤ (quoteE s (i + 1)).2.1 ∧ (quoteE s (i + 1)).2.1 ≤ s.size := ⟨hle.1, hle.2.1⟩
        by_cases hok : (quoteE s (i + 1)).2.2 = true
        · rw [if_pos hok] at *
          have := scanGo_place (s := s) f (quoteE s (i + 1)).2.1 hle2.2 h
          show i ≤ (scanGo s f (quoteE s (i + 1)).2.1).2.1
          omega
        · rw [if_neg hok] at *
          show i ≤ (quoteE s (i + 1)).2.1
          omega
      rw [if_neg hq] at *
      by_cases hw : (wordL s i).1 ≠ 0
      · rw [if_pos hw] at *
        have hp := wordL_pos hi hw
        have := scanGo_place (s := s) f (wordL s i).2 hp.2.1 h
        show i ≤ (scanGo s f (wordL s i).2).2.1
        omega
      rw [if_neg hw] at *
      have hm := markL_le (s.data.toList.drop i)
      rw [List.length_drop, ← Lib.size_eq] at hm
      by_cases hk : (markL (s.data.toList.drop i)).1 ≠ 0
      · rw [if_pos hk] at *
        have := scanGo_place (s := s) f (i + (markL (s.data.toList.drop i)).2) (by omega) h
        show i ≤ (scanGo s f _).2.1
        omega
      · rw [if_neg hk] at *
        exact Nat.le_refl _
    · rw [dif_neg hl] at h; exact absurd rfl h

theorem scanGo_fuel {s : ByteArray} : ∀ (f g i : Nat), s.size - i < f → s.size - i < g → scanGo s f i = scanGo s g i
  | 0, g, i, h, _ => by omega
  | f + 1, 0, i, _, h => by omega
  | f + 1, g + 1, i, hf, hg => by
    rw [scanGo, scanGo]
    by_cases hi : i < s.size
    · rw [dif_pos hi, dif_pos hi]
      by_cases hb : s[i] = 32 ∨ s[i] = 9 ∨ s[i] = 10 ∨ s[i] = 13
      · rw [if_pos hb, if_pos hb]; exact scanGo_fuel f g _ (by omega) (by omega)
      rw [if_neg hb, if_neg hb]
      by_cases hc : s[i] = 37
      · rw [if_pos hc, if_pos hc]
        have := cmtE_pos hi hc
        exact scanGo_fuel f g _ (by omega) (by omega)
      rw [if_neg hc, if_neg hc]
      by_cases hq : s[i] = 34
      · rw [if_pos hq, if_pos hq]
        have hle := qGo_le (s := s) (s.size + 1) (i + 1) [] (by omega)
        have hle2 : i + 1 ≤ (quoteE s (i + 1)).2.1 := hle.1
        rw [scanGo_fuel f g (quoteE s (i + 1)).2.1 (by omega) (by omega)]
      rw [if_neg hq, if_neg hq]
      by_cases hw : (wordL s i).1 ≠ 0
      · have hp := wordL_pos (Nat.le_of_lt hi) hw
        rw [if_pos hw, if_pos hw, scanGo_fuel f g (wordL s i).2 (by omega) (by omega)]
      rw [if_neg hw, if_neg hw]
      by_cases hk : (markL (s.data.toList.drop i)).1 ≠ 0
      · have hm := (markL_le (s.data.toList.drop i)).2.2 hk
        rw [if_pos hk, if_pos hk, scanGo_fuel f g (i + (markL (s.data.toList.drop i)).2) (by omega) (by omega)]
      · rw [if_neg hk, if_neg hk]
    · rw [dif_neg hi, dif_neg hi]
theorem TRes.uniq {s : ByteArray} {i : Nat} {r r' : List Tok × Nat × Nat} (h : TRes s i r) (h' : TRes s i r') : r = r' := by
  obtain ⟨f, hf, rfl⟩ := h
  obtain ⟨g, hg, rfl⟩ := h'
  exact scanGo_fuel f g i hf hg

/-- a text that goes on behind a blank -/
structure GoesOn (s t : ByteArray) : Prop where
  ex : ∃ b, t.data.toList = s.data.toList ++ 32 :: b
section
variable {s t : ByteArray}
theorem getD_list (s : ByteArray) (i : Nat) : s.get! i = s.data.toList.getD i 0 := by
  by_cases hj : i < s.size
  · rw [show s.get! i = s[i] by simpa using get_at s i hj]
    rw [List.getD_eq_getElem?_getD, List.getElem?_eq_getElem (by simpa using hj)]; rfl
  · rw [List.getD_eq_getElem?_getD, List.getElem?_eq_none (by rw [← Lib.size_eq]; omega)]
    cases s with | mk d =>
    have : ¬ i < d.size := hj
    simp [ByteArray.get!, this]
    try rfl
theorem GoesOn.lt (h : GoesOn s t) : s.size < t.size := by
  obtain ⟨b, hb⟩ := h.ex
  have := congrArg List.length hb
  rw [List.length_append, ← Lib.size_eq, ← Lib.size_eq, List.length_cons] at this
  omega
theorem GoesOn.same (h : GoesOn s t) : ∀ i, i < s.size → t.get! i = s.get! i := fun i hi => by
  obtain ⟨b, hb⟩ := h.ex
  rw [getD_list, getD_list, hb, List.getD_eq_getElem?_getD, List.getD_eq_getElem?_getD, List.getElem?_append_left (by rw [← Lib.size_eq]; exact hi)]
theorem GoesOn.blank (h : GoesOn s t) : t.get! s.size = 32 := by
  obtain ⟨b, hb⟩ := h.ex
  rw [getD_list, hb, List.getD_eq_getElem?_getD, List.getElem?_append_right (by rw [← Lib.size_eq]; omega), ← Lib.size_eq, Nat.sub_self]; rfl
theorem GoesOn.at (h : GoesOn s t) {i : Nat} (hi : i < s.size) (hi' : i < t.size) : t[i] = s[i] := by
  have := h.same i hi
  rw [show t.get! i = t[i] by simpa using get_at t i hi', show s.get! i = s[i] by simpa using get_at s i hi] at this
  exact this
theorem GoesOn.drop (h : GoesOn s t) {i : Nat} (hi : i ≤ s.size) : ∃ b, t.data.toList.drop i = s.data.toList.drop i ++ 32 :: b := by
  obtain ⟨b, hb⟩ := h.ex
  exact ⟨b, by rw [hb, List.drop_append_of_le_length (by rw [← Lib.size_eq]; exact hi)]⟩
theorem GoesOn.extract (h : GoesOn s t) {i e : Nat} (hi : i ≤ s.size) (he : e ≤ s.size) : t.extract i e = s.extract i e := by
  obtain ⟨b, hb⟩ := h.drop hi
  apply ByteArray.ext
  apply Array.ext'
  rw [ext_data, ext_data, hb, List.take_append_of_le_length (by rw [List.length_drop, ← Lib.size_eq]; omega)]
theorem GoesOn.decode (h : GoesOn s t) {i : Nat} (hi : i < s.size) : Utf8.decode t i = Utf8.decode s i := by
  have hlt := h.lt
  have e0 := h.same i hi
  have c : ∀ k, i + k < s.size → t.get! (i + k) = s.get! (i + k) := fun k hk => h.same _ hk
  have nb : ∀ k, i + k = s.size → ((t.get! (i + k)).toNat / 64 == 2) = false := fun k hk => by rw [hk, h.blank]; decide
  unfold Utf8.decode
  simp only [Nat.add_zero, e0]
  by_cases h1 : i + 1 < s.size
  · have e1 := c 1 h1
    by_cases h2 : i + 2 < s.size
    · have e2 := c 2 h2
      by_cases h3 : i + 3 < s.size
      · have e3 := c 3 h3
        rw [e1, e2, e3, decide_eq_true h1, decide_eq_true h2, decide_eq_true h3, decide_eq_true (show i + 1 < t.size by omega), decide_eq_true (show i + 2 < t.size by omega), decide_eq_true (show i + 3 < t.size by omega)]
      · rw [e1, e2, decide_eq_true h1, decide_eq_true h2, decide_eq_false h3, decide_eq_true (show i + 1 < t.size by omega), decide_eq_true (show i + 2 < t.size by omega)]
        have hf : (decide (i + 3 < t.size) && (t.get! (i + 3)).toNat / 64 == 2) = false := by rw [nb 3 (by omega)]; simp
        rw [hf]
        simp
    · have hf : (decide (i + 2 < t.size) && (t.get! (i + 2)).toNat / 64 == 2) = false := by rw [nb 2 (by omega)]; simp
      rw [e1, decide_eq_true h1, decide_eq_false h2, decide_eq_true (show i + 1 < t.size by omega), hf]
      simp
  · have hf : (decide (i + 1 < t.size) && (t.get! (i + 1)).toNat / 64 == 2) = false := by rw [nb 1 (by omega)]; simp
    rw [decide_eq_false h1, hf]
    simp
theorem escL_app {l m : List UInt8} (h : (escL l).2 ≠ 0) : escL (l ++ m) = escL l := by
  rcases l with _ | ⟨c, r⟩
  · exact absurd rfl h
  · rw [List.cons_append]
    simp only [escL] at *
    by_cases h1 : c = 34
    · rw [if_pos h1, if_pos h1]
    rw [if_neg h1, if_neg h1]
    rw [if_neg h1] at h
    by_cases h2 : c = 92
    · rw [if_pos h2, if_pos h2]
    rw [if_neg h2, if_neg h2]
    rw [if_neg h2] at h
    by_cases h3 : c = 110
    · rw [if_pos h3, if_pos h3]
    rw [if_neg h3, if_neg h3]
    rw [if_neg h3] at h
    by_cases h4 : c = 116
    · rw [if_pos h4, if_pos h4]
    rw [if_neg h4, if_neg h4]
    rw [if_neg h4] at h
    by_cases h5 : c ≠ 120
    · rw [if_pos h5] at h; exact absurd rfl h
    rw [if_neg h5, if_neg h5]
    rw [if_neg h5] at h
    rcases r with _ | ⟨a, _ | ⟨b, r⟩⟩
    · exact absurd rfl h
    · exact absurd rfl h
    · rfl
theorem GoesOn.qGo (h : GoesOn s t) : ∀ (f i : Nat) (acc : List UInt8), i ≤ s.size → (Proofs.YtphgglnkdfndiaaDoor.qGo s f i acc).2.2 = true → Proofs.YtphgglnkdfndiaaDoor.qGo t f i acc = Proofs.YtphgglnkdfndiaaDoor.qGo s f i acc
  | 0, i, acc, _, hk => by simp [Proofs.YtphgglnkdfndiaaDoor.qGo] at hk
  | f + 1, i, acc, hi, hk => by
    have hlt := h.lt
    rw [Proofs.YtphgglnkdfndiaaDoor.qGo] at hk
    rw [Proofs.YtphgglnkdfndiaaDoor.qGo, Proofs.YtphgglnkdfndiaaDoor.qGo]
    by_cases hl : i < s.size
    · rw [dif_pos hl] at hk
      rw [dif_pos hl, dif_pos (show i < t.size by omega), h.at hl (by omega), h.decode hl]
      by_cases h34 : s[i] = 34
      · rw [if_pos h34, if_pos h34]
      rw [if_neg h34, if_neg h34]
      rw [if_neg h34] at hk
      obtain ⟨b, hb⟩ := h.drop (i := i + 1) hl
      obtain ⟨b0, hb0⟩ := h.drop (i := i) hi
      by_cases h92 : s[i] = 92
      · rw [if_pos h92, if_pos h92]
        rw [if_pos h92] at hk
        have hle := escL_le (s.data.toList.drop (i + 1))
        rw [List.length_drop, ← Lib.size_eq] at hle
        by_cases he : (escL (s.data.toList.drop (i + 1))).2 = 0
        · rw [if_pos he] at hk; exact absurd hk (by simp)
        · rw [if_neg he] at hk
          have e2 := escL_app (m := 32 :: b) he
          rw [← hb] at e2
          rw [e2, if_neg he, if_neg he]
          exact h.qGo f _ _ (by omega) hk
      rw [if_neg h92, if_neg h92]
      rw [if_neg h92] at hk
      by_cases hp : 32 ≤ s[i].toNat ∧ s[i].toNat ≤ 126
      · rw [if_pos hp, if_pos hp]
        rw [if_pos hp] at hk
        exact h.qGo f _ _ (by omega) hk
      rw [if_neg hp, if_neg hp]
      rw [if_neg hp] at hk
      have hw := decode_width s i hl
      by_cases hd : (Utf8.decode s i).1 < 128 ∨ ((Utf8.decode s i).1 = 65533 ∧ (Utf8.decode s i).2 = 1)
      · rw [if_pos hd] at hk; exact absurd hk (by simp)
      · rw [if_neg hd] at hk
        rw [if_neg hd, if_neg hd, hb0, List.take_append_of_le_length (by rw [List.length_drop, ← Lib.size_eq]; omega)]
        exact h.qGo f _ _ (by omega) hk
    · rw [dif_neg hl] at hk; exact absurd hk (by simp)
theorem GoesOn.partL (h : GoesOn s t) {i : Nat} (hi : i ≤ s.size) : Proofs.YtphgglnkdfndiaaDoor.partL t i = Proofs.YtphgglnkdfndiaaDoor.partL s i := by
  have hlt := h.lt
  unfold Proofs.YtphgglnkdfndiaaDoor.partL
  by_cases hl : i < s.size
  · rw [h.decode hl]
    simp only [hl, show i < t.size by omega, true_and]
  · obtain rfl : i = s.size := by omega
    have hd : Utf8.decode t s.size = (32, 1) := by
      have h32 : t[s.size].toNat = 32 := by
        have := h.blank
        rw [show t.get! s.size = t[s.size] by simpa using get_at t s.size hlt] at this
        rw [this]; rfl
      rw [decode_ascii t s.size hlt (by omega), h32]
    rw [hd, if_neg (by rintro ⟨_, hh⟩; exact absurd hh (by decide)), if_neg (by rintro ⟨hh, _⟩; exact hl hh)]
theorem GoesOn.endL (h : GoesOn s t) : ∀ (f i : Nat), i ≤ s.size → Proofs.YtphgglnkdfndiaaDoor.endL t f i = Proofs.YtphgglnkdfndiaaDoor.endL s f i
  | 0, i, _ => rfl
  | f + 1, i, hi => by
    rw [Proofs.YtphgglnkdfndiaaDoor.endL, Proofs.YtphgglnkdfndiaaDoor.endL, h.partL hi]
    split
    · rfl
    · exact h.endL f _ (partL_le hi)
theorem GoesOn.wordL (h : GoesOn s t) {i : Nat} (hi : i < s.size) : Proofs.YtphgglnkdfndiaaDoor.wordL t i = Proofs.YtphgglnkdfndiaaDoor.wordL s i := by
  have hlt := h.lt
  have hk : kindL t i = kindL s i := by
    unfold kindL
    rw [if_pos hi, if_pos (show i < t.size by omega), h.decode hi]
  unfold Proofs.YtphgglnkdfndiaaDoor.wordL
  rw [hk]
  split
  · rfl
  · rw [h.endL t.size i (Nat.le_of_lt hi)]
    congr 1
    exact End.unique (Nat.le_of_lt hi) ⟨_, by omega, rfl⟩ ⟨_, by omega, rfl⟩
/-- a mark by its two bytes; 256: there is no second one -/
def markN2 (a b : Nat) : Nat × Nat :=
  if a = 58 ∧ b = 45 then (8, 2) else if a = 33 ∧ b = 61 then (11, 2) else if a = 60 ∧ b = 61 then (13, 2) else
  if a = 40 then (4, 1) else if a = 41 then (5, 1) else if a = 44 then (6, 1) else if a = 46 then (7, 1) else if a = 33 then (9, 1) else if a = 61 then (10, 1) else if a = 60 then (12, 1) else (0, 0)
theorem markL_two2 (a b : UInt8) (l : List UInt8) : markL (a :: b :: l) = markN2 a.toNat b.toNat := by
  have e : ∀ n : Nat, n < 256 → ∀ c : UInt8, c.toNat = n ↔ c = UInt8.ofNat n := fun n hn c => by
    rw [← UInt8.toNat_inj, UInt8.toNat_ofNat', Nat.mod_eq_of_lt (by omega)]
  unfold markL markN2
  simp only [e 58 (by omega), e 45 (by omega), e 33 (by omega), e 61 (by omega), e 60 (by omega), e 40 (by omega), e 41 (by omega), e 44 (by omega), e 46 (by omega)]
  split <;> simp_all
  · rename_i hx hq
    intro hb
    exact hx l (by rw [← hq.2, hb])
  · rename_i hx hq
    intro hb
    exact hx l (by rw [← hq.2, hb])
theorem markL_app {l m : List UInt8} (h : l ≠ []) : markL (l ++ 32 :: m) = markL l := by
  rcases l with _ | ⟨a, _ | ⟨b, r⟩⟩
  · exact absurd rfl h
  · rw [List.cons_append, List.nil_append]
    unfold markL
    split <;> simp_all
  · rw [List.cons_append, List.cons_append, markL_two2, markL_two2]
/-- the steps, backwards -/
theorem TRes.ofBlank {i : Nat} {r : List Tok × Nat × Nat} (hi : i < s.size) (hc : s[i] = 32 ∨ s[i] = 9 ∨ s[i] = 10 ∨ s[i] = 13) (h : TRes s (i + 1) r) : TRes s i r := by
  obtain ⟨f, hf, rfl⟩ := h
  exact ⟨f + 1, by omega, by rw [scanGo, dif_pos hi, if_pos hc]⟩
theorem TRes.ofQuote {i e : Nat} {x : List UInt8} {r : List Tok × Nat × Nat} (hi : i < s.size) (hc : s[i] = 34) (hq : quoteE s (i + 1) = (x, e, true)) (h : TRes s e r) : TRes s i (tcons ⟨3, ⟨x.toArray⟩, i⟩ r) := by
  obtain ⟨f, hf, rfl⟩ := h
  have hle := (qGo_le (s := s) (s.size + 1) (i + 1) [] (by omega))
  have e1 : qGo s (s.size + 1) (i + 1) [] = (x, e, true) := hq
  rw [e1] at hle
  refine ⟨f + s.size + 1, by omega, ?_⟩
  have hfu : scanGo s f e = scanGo s (f + s.size) e := scanGo_fuel f _ e hf (by omega)
  rw [hfu, scanGo, dif_pos hi, if_neg (by rw [hc]; decide), if_neg (by rw [hc]; decide), if_pos hc, hq]; rfl
theorem TRes.ofWord {i k e : Nat} {r : List Tok × Nat × Nat} (hi : i < s.size) (hc : plainB s[i]) (hw : wordL s i = (k, e)) (hk : k ≠ 0) (h : TRes s e r) : TRes s i (tcons ⟨k, s.extract i e, i⟩ r) := by
  obtain ⟨f, hf, rfl⟩ := h
  have hp := wordL_pos (Nat.le_of_lt hi) (by rw [hw]; exact hk)
  rw [hw] at hp
  simp only at hp
  refine ⟨f + s.size + 1, by omega, ?_⟩
  have hfu : scanGo s f e = scanGo s (f + s.size) e := scanGo_fuel f _ e hf (by omega)
  rw [hfu, scanGo_plain hi hc, hw, if_pos hk]
theorem TRes.ofMark {i k n : Nat} {r : List Tok × Nat × Nat} (hi : i < s.size) (hc : plainB s[i]) (hw : (wordL s i).1 = 0) (hm : markL (s.data.toList.drop i) = (k, n)) (hk : k ≠ 0) (h : TRes s (i + n) r) : TRes s i (tcons ⟨k, ⟨#[]⟩, i⟩ r) := by
  obtain ⟨f, hf, rfl⟩ := h
  refine ⟨f + s.size + 1, by omega, ?_⟩
  have hfu : scanGo s f (i + n) = scanGo s (f + s.size) (i + n) := scanGo_fuel f _ _ hf (by omega)
  rw [hfu, scanGo_plain hi hc, hm, if_neg (by rw [hw]; simp), if_pos hk]
theorem tcons_inv {x : Tok} {r' : List Tok × Nat × Nat} {ts : List Tok} {p : Nat} (h : (ts, p, 0) = tcons x r') : ∃ ts', ts = x :: ts' ∧ r' = (ts', p, 0) := by
  obtain ⟨a, b, c⟩ := r'
  unfold tcons at h
  simp only [Prod.mk.injEq] at h
  obtain ⟨h1, h2, h3⟩ := h
  subst h2 h3
  exact ⟨a, h1, rfl⟩
theorem GoesOn.scan (h : GoesOn s t) (hno : ∀ i, i < s.size → s.get! i ≠ 37) {r : List Tok × Nat × Nat} (hr : TRes t (s.size + 1) r) : ∀ (n i : Nat), s.size - i = n → i ≤ s.size → ∀ (ts : List Tok) (p : Nat), TRes s i (ts, p, 0) → TRes t i (ts ++ r.1, r.2) := by
  have hlt := h.lt
  intro n
  induction n using Nat.strongRecOn with
  | _ n ih =>
    intro i hn hi ts p hT
    by_cases hl : i < s.size
    · have hl' : i < t.size := by omega
      have hat := h.at hl hl'
      by_cases hb : s[i] = 32 ∨ s[i] = 9 ∨ s[i] = 10 ∨ s[i] = 13
      · exact TRes.ofBlank hl' (by rw [hat]; exact hb) (ih _ (by omega) (i + 1) rfl hl ts p (hT.blank hl hb))
      by_cases hc : s[i] = 37
      · exfalso
        exact hno i hl (by rw [show s.get! i = s[i] by simpa using get_at s i hl]; exact hc)
      by_cases hq : s[i] = 34
      · rcases hqe : quoteE s (i + 1) with ⟨x, e, ok⟩
        cases ok with
        | false => have := hT.quote0 hl hq hqe; simp at this
        | true =>
          obtain ⟨r', h1, h2⟩ := hT.quote1 hl hq hqe
          obtain ⟨ts', rfl, rfl⟩ := tcons_inv h1
          have hle := qGo_le (s := s) (s.size + 1) (i + 1) [] (by omega)
          have e1 : Proofs.YtphgglnkdfndiaaDoor.qGo s (s.size + 1) (i + 1) [] = (x, e, true) := hqe
          rw [e1] at hle
          have hle3 := hle.2.2 rfl
          simp only at hle hle3
          have hfs : Proofs.YtphgglnkdfndiaaDoor.qGo s (t.size + 1) (i + 1) [] = (x, e, true) := by rw [← e1]; exact qGo_fuel _ _ _ _ (by omega) (by omega)
          have hqt : quoteE t (i + 1) = (x, e, true) := by
            unfold quoteE
            rw [h.qGo _ _ _ (by omega) (by rw [hfs]), hfs]
          exact TRes.ofQuote hl' (by rw [hat]; exact hq) hqt (ih _ (by omega) e rfl (by omega) ts' p h2)
      have hpl : plainB s[i] := by
        refine ⟨fun h => hb (.inl h), fun h => hb (.inr (.inl h)), fun h => hb (.inr (.inr (.inl h))), fun h => hb (.inr (.inr (.inr h))), hc, hq⟩
      have hplt : plainB t[i] := by rw [hat]; exact hpl
      rcases hw : Proofs.YtphgglnkdfndiaaDoor.wordL s i with ⟨kd, e⟩
      have hwt : Proofs.YtphgglnkdfndiaaDoor.wordL t i = (kd, e) := by rw [h.wordL hl, hw]
      by_cases hk : kd = 0
      · subst hk
        have hmt : markL (t.data.toList.drop i) = markL (s.data.toList.drop i) := by
          obtain ⟨b, hbb⟩ := h.drop hi
          rw [hbb]
          exact markL_app (by intro hh; have := congrArg List.length hh; rw [List.length_drop, ← Lib.size_eq] at this; simp at this; omega)
        rcases hm : markL (s.data.toList.drop i) with ⟨mk, mn⟩
        by_cases hmk : mk = 0
        · have := hT.none hl hpl (by rw [hw]) (by rw [hm]; exact hmk); simp at this
        · obtain ⟨r', h1, h2⟩ := hT.mark hl hpl (by rw [hw]) hm hmk
          obtain ⟨ts', rfl, rfl⟩ := tcons_inv h1
          have hml := markL_le (s.data.toList.drop i)
          rw [hm, List.length_drop, ← Lib.size_eq] at hml
          simp only at hml
          have := hml.2.2 hmk
          exact TRes.ofMark hl' hplt (by rw [hwt]) (by rw [hmt, hm]) hmk (ih _ (by omega) (i + mn) rfl (by omega) ts' p h2)
      · obtain ⟨r', h1, h2⟩ := hT.word hl hpl hw hk
        obtain ⟨ts', rfl, rfl⟩ := tcons_inv h1
        have hp := wordL_pos hi (by rw [hw]; exact hk)
        rw [hw] at hp
        simp only at hp
        rw [← h.extract hi hp.2.1]
        exact TRes.ofWord hl' hplt hwt hk (ih _ (by omega) e rfl hp.2.1 ts' p h2)
    · obtain rfl : i = s.size := by omega
      have := hT.out (by omega)
      simp only [Prod.mk.injEq] at this
      obtain ⟨rfl, _⟩ := this
      have h32 : t[s.size] = 32 := by
        have := h.blank
        rwa [show t.get! s.size = t[s.size] by simpa using get_at t s.size hlt] at this
      exact TRes.ofBlank hlt (.inl h32) (by simpa using hr)
/-- **the law**: text, then a blank, then whatever: the tokens ahead are the same, and what comes behind lies behind the text -/
theorem GoesOn.found (h : GoesOn s t) (hno : ∀ i, i < s.size → s.get! i ≠ 37) (ht : t.size ≤ 65536) {ts : List Tok} {p : Nat} (hs : foundL s = (ts, p, 0)) :
    ∃ r : List Tok × Nat × Nat, foundL t = (ts ++ r.1, r.2) ∧ (∀ x ∈ seqOf r, s.size < x.1.at_) := by
  have hlt := h.lt
  have h1 : foundL s = scanL s := by unfold foundL; rw [if_neg (by omega)]
  have h2 : foundL t = scanL t := by unfold foundL; rw [if_neg (by omega)]
  rw [h1] at hs
  refine ⟨scanGo t (t.size + 1) (s.size + 1), ?_, ?_⟩
  · rw [h2]
    exact (scanL_res t).uniq (h.scan hno ⟨_, by omega, rfl⟩ _ 0 rfl (by omega) ts p (hs ▸ scanL_res s))
  · intro x hx
    have hri := (scanGo_rises (s := t) (t.size + 1) (s.size + 1) hlt).1
    have hpl := scanGo_place (s := t) (t.size + 1) (s.size + 1) hlt
    generalize scanGo t (t.size + 1) (s.size + 1) = r at *
    unfold seqOf at hx
    rcases List.mem_append.1 hx with hx | hx
    · obtain ⟨y, hy, rfl⟩ := List.mem_map.1 hx
      have key : ∀ (l : List Tok) (i : Nat), Rises t.size i l → ∀ y ∈ l, i ≤ y.at_ := by
        intro l
        induction l with
        | nil => intro i _ y hy; cases hy
        | cons z l ih =>
          intro i hz y hy
          rcases List.mem_cons.1 hy with rfl | hy
          · exact hz.1
          · have := ih _ hz.2.2.2.2 y hy; have := hz.1; omega
      have := key _ _ hri y hy
      show s.size < y.at_
      omega
    · split at hx
      · cases hx
      · rename_i he
        simp at hx
        subst hx
        have := hpl he
        show s.size < r.2.1
        omega
end
end Go.Proofs.YtphgglnkdfndiaaDoor
