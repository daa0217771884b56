/-
  The plain law of scanning: tokens of a text from a place on; the shifts from a text to what stands behind a place of it.
-/
import Derived.Test.YteecbbnpgmceiaaDoorLexQuote
namespace Go.Proofs.YteecbbnpgmceiaaDoor
open Go Go.RowKit Go.Mine
set_option maxHeartbeats 1000000
set_option maxRecDepth 100000
set_option linter.unusedVariables false

theorem qGo_le {s : ByteArray} : ∀ (f i : Nat) (acc : List UInt8), i ≤ s.size → i ≤ (qGo s f i acc).2.1 ∧ (qGo s f i acc).2.1 ≤ s.size ∧ ((qGo s f i acc).2.2 = true → i < (qGo s f i acc).2.1)
  | 0, i, acc, h => by simp [qGo, h]
  | f + 1, i, acc, h => by
    rw [qGo]
    by_cases hi : i < s.size
    · rw [dif_pos hi]
      by_cases h34 : s[i] = 34
      · rw [if_pos h34]; simp; omega
      · rw [if_neg h34]
        by_cases h92 : s[i] = 92
        · rw [if_pos h92]
          have hl := escL_le (s.data.toList.drop (i + 1))
          rw [List.length_drop, ← Lib.size_eq] at hl
          by_cases he : (escL (s.data.toList.drop (i + 1))).2 = 0
          · rw [if_pos he]; simp; omega
          · rw [if_neg he]
            have := qGo_le (s := s) f (i + 1 + (escL (s.data.toList.drop (i + 1))).2) (acc ++ [(escL (s.data.toList.drop (i + 1))).1]) (by omega)
            exact ⟨by omega, this.2.1, fun h => by have := this.2.2 h; omega⟩
        · rw [if_neg h92]
          by_cases hp : 32 ≤ s[i].toNat ∧ s[i].toNat ≤ 126
          · rw [if_pos hp]
            have := qGo_le (s := s) f (i + 1) (acc ++ [s[i]]) (by omega)
            exact ⟨by omega, this.2.1, fun h => by have := this.2.2 h; omega⟩
          · rw [if_neg hp]
            have hw := decode_width s i hi
            by_cases hd : (Utf8.decode s i).1 < 128 ∨ ((Utf8.decode s i).1 = 65533 ∧ (Utf8.decode s i).2 = 1)
            · rw [if_pos hd]; simp; omega
            · rw [if_neg hd]
              have := qGo_le (s := s) f (i + (Utf8.decode s i).2) (acc ++ (s.data.toList.drop i).take (Utf8.decode s i).2) (by omega)
              exact ⟨by omega, this.2.1, fun h => by have := this.2.2 h; omega⟩
    · rw [dif_neg hi]; simp; omega

theorem qGo_fuel {s : ByteArray} : ∀ (f g i : Nat) (acc : List UInt8), s.size - i < f → s.size - i < g → qGo s f i acc = qGo s g i acc
  | 0, g, i, acc, h, _ => by omega
  | f + 1, 0, i, acc, _, h => by omega
  | f + 1, g + 1, i, acc, hf, hg => by
    rw [qGo, qGo]
    by_cases hi : i < s.size
    · rw [dif_pos hi, dif_pos hi]
      have hw := decode_width s i hi
      rw [qGo_fuel f g (i + 1 + (escL (s.data.toList.drop (i + 1))).2) _ (by omega) (by omega), qGo_fuel f g (i + 1) _ (by omega) (by omega), qGo_fuel f g (i + (Utf8.decode s i).2) _ (by omega) (by omega)]
    · rw [dif_neg hi, dif_neg hi]
theorem QRes.uniq {s : ByteArray} {i : Nat} {acc : List UInt8} {r r' : List UInt8 × Nat × Bool} (h : QRes s i acc r) (h' : QRes s i acc r') : r = r' := by
  obtain ⟨f, hf, rfl⟩ := h
  obtain ⟨g, hg, rfl⟩ := h'
  exact qGo_fuel f g i acc hf hg

theorem ext_at (s : ByteArray) (j i : Nat) (h : j + i < s.size) (h' : i < (s.extract j s.size).size) : (s.extract j s.size)[i] = s[j + i] := by
  have h1 := ext_get s j i
  rw [show (s.extract j s.size).get! i = (s.extract j s.size)[i] by simpa using get_at _ i h'] at h1
  rw [h1]; simpa using get_at s (j + i) h
theorem qGo_shift {s : ByteArray} {j : Nat} (hj : j ≤ s.size) : ∀ (f i : Nat) (acc : List UInt8),
    qGo s f (j + i) acc = ((qGo (s.extract j s.size) f i acc).1, j + (qGo (s.extract j s.size) f i acc).2.1, (qGo (s.extract j s.size) f i acc).2.2)
  | 0, i, acc => rfl
  | f + 1, i, acc => by
    rw [qGo, qGo]
    by_cases hi : j + i < s.size
    · have hi' : i < (s.extract j s.size).size := by rw [ext_size]; omega
      rw [dif_pos hi, dif_pos hi']
      have e1 : (s.extract j s.size)[i] = s[j + i] := ext_at s j i hi hi'
      have e2 : (s.extract j s.size).data.toList.drop (i + 1) = s.data.toList.drop (j + i + 1) := by rw [ext_drop, List.drop_drop]; rfl
      have e3 := ext_decode s j i hj
      have e4 : (s.extract j s.size).data.toList.drop i = s.data.toList.drop (j + i) := by rw [ext_drop, List.drop_drop]
      rw [e1, e2, e3, e4]
      by_cases h34 : s[j + i] = 34
      · rw [if_pos h34, if_pos h34]; rfl
      · rw [if_neg h34, if_neg h34]
        by_cases h92 : s[j + i] = 92
        · rw [if_pos h92, if_pos h92]
          by_cases he : (escL (s.data.toList.drop (j + i + 1))).2 = 0
          · rw [if_pos he, if_pos he]
          · rw [if_neg he, if_neg he, ← qGo_shift hj f, ← Nat.add_assoc, ← Nat.add_assoc]
        · rw [if_neg h92, if_neg h92]
          by_cases hp : 32 ≤ s[j + i].toNat ∧ s[j + i].toNat ≤ 126
          · rw [if_pos hp, if_pos hp, ← qGo_shift hj f, ← Nat.add_assoc]
          · rw [if_neg hp, if_neg hp]
            by_cases hd : (Utf8.decode s (j + i)).1 < 128 ∨ ((Utf8.decode s (j + i)).1 = 65533 ∧ (Utf8.decode s (j + i)).2 = 1)
            · rw [if_pos hd, if_pos hd]
            · rw [if_neg hd, if_neg hd, ← qGo_shift hj f, ← Nat.add_assoc]
    · have hi' : ¬ i < (s.extract j s.size).size := by rw [ext_size]; omega
      rw [dif_neg hi, dif_neg hi']
/-- a text in quotes read behind place j: in the text itself, or in what stands behind j -/
theorem QRes.shift {s : ByteArray} {j : Nat} (hj : j ≤ s.size) {r : List UInt8 × Nat × Bool} (h : QRes (s.extract j s.size) 0 [] r) : QRes s j [] (r.1, j + r.2.1, r.2.2) := by
  obtain ⟨f, hf, rfl⟩ := h
  rw [ext_size] at hf
  exact ⟨f, by omega, (qGo_shift (i := 0) hj f [] ▸ rfl : _ = qGo s f (j + 0) [])⟩

theorem partL_shift {s : ByteArray} {j : Nat} (hj : j ≤ s.size) (i : Nat) : partL (s.extract j s.size) i = partL s (j + i) := by
  unfold partL
  rw [ext_decode s j i hj, ext_size]
  have hh : (i < s.size - j) ↔ (j + i < s.size) := by omega
  simp only [hh]
theorem endL_shift {s : ByteArray} {j : Nat} (hj : j ≤ s.size) : ∀ (f i : Nat), endL s f (j + i) = j + endL (s.extract j s.size) f i
  | 0, i => rfl
  | f + 1, i => by
    rw [endL, endL, partL_shift hj]
    split
    · rfl
    · rw [Nat.add_assoc, endL_shift hj f]
theorem kindL_shift {s : ByteArray} {j : Nat} (hj : j ≤ s.size) (i : Nat) : kindL (s.extract j s.size) i = kindL s (j + i) := by
  unfold kindL
  rw [ext_decode s j i hj, ext_size]
  by_cases h : j + i < s.size
  · rw [if_pos (by omega), if_pos h]
  · rw [if_neg (by omega), if_neg h]
theorem wordL_shift {s : ByteArray} {j : Nat} (hj : j ≤ s.size) : wordL s j = ((wordL (s.extract j s.size) 0).1, j + (wordL (s.extract j s.size) 0).2) := by
  have hk := kindL_shift hj 0
  rw [Nat.add_zero] at hk
  unfold wordL
  rw [hk]
  by_cases h : kindL s j = 0
  · rw [if_pos h, if_pos h]; rfl
  · rw [if_neg h, if_neg h]
    have h1 := endL_shift hj (s.extract j s.size).size 0
    rw [Nat.add_zero] at h1
    have : endL s s.size j = endL s (s.extract j s.size).size j := by
      refine End.unique hj ⟨_, ?_, rfl⟩ ⟨_, ?_, rfl⟩
      · omega
      · rw [ext_size]; exact Nat.le_refl _
    rw [this, h1]
theorem wordL_pos {s : ByteArray} {j : Nat} (hj : j ≤ s.size) (h : (wordL s j).1 ≠ 0) : j < (wordL s j).2 ∧ (wordL s j).2 ≤ s.size ∧ (wordL s j).1 ≤ 2 := by
  have hle : ∀ (f i : Nat), i ≤ s.size → i ≤ endL s f i ∧ endL s f i ≤ s.size := by
    intro f
    induction f with
    | zero => intro i hi; exact ⟨Nat.le_refl _, hi⟩
    | succ f ih =>
      intro i hi
      rw [endL]
      split
      · exact ⟨Nat.le_refl _, hi⟩
      · have := ih (i + partL s i) (partL_le hi); omega
  unfold wordL at *
  by_cases hk : kindL s j = 0
  · rw [if_pos hk] at h; exact absurd rfl h
  · rw [if_neg hk] at *
    have hlt : j < s.size := by
      unfold kindL at hk
      by_cases hlt : j < s.size
      · exact hlt
      · rw [if_neg hlt] at hk; exact absurd rfl hk
    have hkr : kindR (Utf8.decode s j).1 ≠ 0 := by unfold kindL at hk; rwa [if_pos hlt] at hk
    have hp : 0 < partL s j := by
      unfold partL
      have hw := decode_width s j hlt
      have : isPart (Utf8.decode s j).1 = true := by
        cases hh : isPart (Utf8.decode s j).1
        · exact absurd ((kindR_part _).2 hh) hkr
        · rfl
      rw [if_pos ⟨hlt, this⟩]; omega
    refine ⟨?_, (hle _ _ hj).2, ?_⟩
    · cases hs : s.size with
      | zero => omega
      | succ n =>
        simp only
        rw [endL, if_neg (by omega)]
        have := hle n (j + partL s j) (partL_le hj)
        omega
    · simp only
      unfold kindL
      rw [if_pos hlt]
      unfold kindR letterL
      repeat' split
      all_goals omega

/-- the mark that stands at the beginning of a text, and how long it is; 0: none -/
def markL : List UInt8 → Nat × Nat
  | 58 :: 45 :: _ => (8, 2)
  | 33 :: 61 :: _ => (11, 2)
  | 60 :: 61 :: _ => (13, 2)
  | 40 :: _ => (4, 1)
  | 41 :: _ => (5, 1)
  | 44 :: _ => (6, 1)
  | 46 :: _ => (7, 1)
  | 33 :: _ => (9, 1)
  | 61 :: _ => (10, 1)
  | 60 :: _ => (12, 1)
  | _ => (0, 0)
theorem markL_le (l : List UInt8) : (markL l).2 ≤ l.length ∧ (markL l).1 ≤ 13 ∧ ((markL l).1 ≠ 0 → 0 < (markL l).2) := by
  unfold markL
  split <;> simp

structure Tok where
  kind : Nat
  text : ByteArray
  at_ : Nat

/-- where a comment ends -/
def cmtE (s : ByteArray) (i : Nat) : Nat := i + ((s.data.toList.drop i).takeWhile (· != 10)).length
theorem cmtE_le {s : ByteArray} {i : Nat} (h : i ≤ s.size) : cmtE s i ≤ s.size := by
  unfold cmtE
  have := (List.takeWhile_sublist (fun x : UInt8 => x != 10) (l := s.data.toList.drop i)).length_le
  rw [List.length_drop, ← Lib.size_eq] at this
  omega
theorem cmtE_pos {s : ByteArray} {i : Nat} (h : i < s.size) (hc : s[i] = 37) : i < cmtE s i := by
  unfold cmtE
  have : s.data.toList.drop i = s[i] :: s.data.toList.drop (i + 1) := List.drop_eq_getElem_cons (by simpa using h)
  rw [this, hc, List.takeWhile_cons]
  simp
def quoteE (s : ByteArray) (i : Nat) : List UInt8 × Nat × Bool := qGo s (s.size + 1) i []
theorem quoteE_res (s : ByteArray) (i : Nat) : QRes s i [] (quoteE s i) := ⟨_, by omega, rfl⟩
theorem QRes.eqE {s : ByteArray} {i : Nat} {r : List UInt8 × Nat × Bool} (h : QRes s i [] r) : quoteE s i = r := (quoteE_res s i).uniq h

def tcons (t : Tok) (r : List Tok × Nat × Nat) : List Tok × Nat × Nat := (t :: r.1, r.2)
/-- the tokens from a place on, the place of what is wrong behind them, and what is -/
def scanGo (s : ByteArray) : Nat → Nat → List Tok × Nat × Nat
  | 0, _ => ([], 0, 0)
  | f + 1, i =>
    if h : i < s.size then
      if s[i] = 32 ∨ s[i] = 9 ∨ s[i] = 10 ∨ s[i] = 13 then scanGo s f (i + 1)
      else if s[i] = 37 then scanGo s f (cmtE s i)
      else if s[i] = 34 then
        if (quoteE s (i + 1)).2.2 = true then tcons ⟨3, ⟨(quoteE s (i + 1)).1.toArray⟩, i⟩ (scanGo s f (quoteE s (i + 1)).2.1)
        else ([], (quoteE s (i + 1)).2.1, 61)
      else if (wordL s i).1 ≠ 0 then tcons ⟨(wordL s i).1, s.extract i (wordL s i).2, i⟩ (scanGo s f (wordL s i).2)
      else if (markL (s.data.toList.drop i)).1 ≠ 0 then tcons ⟨(markL (s.data.toList.drop i)).1, ⟨#[]⟩, i⟩ (scanGo s f (i + (markL (s.data.toList.drop i)).2))
      else ([], i, 60)
    else ([], 0, 0)

def TRes (s : ByteArray) (i : Nat) (r : List Tok × Nat × Nat) : Prop := ∃ f, s.size - i < f ∧ r = scanGo s f i
section
variable {s : ByteArray} {i : Nat} {r : List Tok × Nat × Nat}
theorem TRes.out (h : TRes s i r) (hi : ¬ i < s.size) : r = ([], 0, 0) := by
  obtain ⟨f, hf, rfl⟩ := h
  cases f with
  | zero => rfl
  | succ f => rw [scanGo, dif_neg hi]
theorem TRes.blank (h : TRes s i r) (hi : i < s.size) (hc : s[i] = 32 ∨ s[i] = 9 ∨ s[i] = 10 ∨ s[i] = 13) : TRes s (i + 1) r := by
  obtain ⟨f, hf, rfl⟩ := h
  cases f with
  | zero => omega
  | succ f => exact ⟨f, by omega, by rw [scanGo, dif_pos hi, if_pos hc]⟩
theorem TRes.cmt (h : TRes s i r) (hi : i < s.size) (hc : s[i] = 37) : TRes s (cmtE s i) r := by
  obtain ⟨f, hf, rfl⟩ := h
  cases f with
  | zero => omega
  | succ f =>
    have := cmtE_pos hi hc
    exact ⟨f, by omega, by rw [scanGo, dif_pos hi, if_neg (by rw [hc]; decide), if_pos hc]⟩
theorem TRes.quote1 (h : TRes s i r) (hi : i < s.size) (hc : s[i] = 34) {x : List UInt8} {e : Nat} (hq : quoteE s (i + 1) = (x, e, true)) : ∃ r', r = tcons ⟨3, ⟨x.toArray⟩, i⟩ r' ∧ TRes s e r' := by
  obtain ⟨f, hf, rfl⟩ := h
  cases f with
  | zero => omega
  | succ f =>
    have hl := (qGo_le (s := s) (s.size + 1) (i + 1) [] (by omega)).1
    have : qGo s (s.size + 1) (i + 1) [] = (x, e, true) := hq
    rw [this] at hl
    simp only at hl
    refine ⟨scanGo s f e, ?_, f, by omega, rfl⟩
    rw [scanGo, dif_pos hi, if_neg (by rw [hc]; decide), if_neg (by rw [hc]; decide), if_pos hc, hq]; rfl
theorem TRes.quote0 (h : TRes s i r) (hi : i < s.size) (hc : s[i] = 34) {x : List UInt8} {e : Nat} (hq : quoteE s (i + 1) = (x, e, false)) : r = ([], e, 61) := by
  obtain ⟨f, hf, rfl⟩ := h
  cases f with
  | zero => omega
  | succ f => rw [scanGo, dif_pos hi, if_neg (by rw [hc]; decide), if_neg (by rw [hc]; decide), if_pos hc, hq]; rfl
/-- the byte begins neither a blank, nor a comment, nor a text in quotes -/
def plainB (c : UInt8) : Prop := c ≠ 32 ∧ c ≠ 9 ∧ c ≠ 10 ∧ c ≠ 13 ∧ c ≠ 37 ∧ c ≠ 34
theorem scanGo_plain {f : Nat} (hi : i < s.size) (hc : plainB s[i]) : scanGo s (f + 1) i =
      if (wordL s i).1 ≠ 0 then tcons ⟨(wordL s i).1, s.extract i (wordL s i).2, i⟩ (scanGo s f (wordL s i).2)
      else if (markL (s.data.toList.drop i)).1 ≠ 0 then tcons ⟨(markL (s.data.toList.drop i)).1, ⟨#[]⟩, i⟩ (scanGo s f (i + (markL (s.data.toList.drop i)).2))
      else ([], i, 60) := by
  obtain ⟨h1, h2, h3, h4, h5, h6⟩ := hc
  rw [scanGo, dif_pos hi, if_neg (by rintro (h | h | h | h) <;> contradiction), if_neg h5, if_neg h6]
theorem TRes.word (h : TRes s i r) (hi : i < s.size) (hc : plainB s[i]) {k e : Nat} (hw : wordL s i = (k, e)) (hk : k ≠ 0) : ∃ r', r = tcons ⟨k, s.extract i e, i⟩ r' ∧ TRes s e r' := by
  obtain ⟨f, hf, rfl⟩ := h
  cases f with
  | zero => omega
  | succ f =>
    have hp := wordL_pos (Nat.le_of_lt hi) (by rw [hw]; exact hk)
    rw [hw] at hp
    simp only at hp
    refine ⟨scanGo s f e, ?_, f, by omega, rfl⟩
    rw [scanGo_plain hi hc, hw, if_pos hk]
theorem TRes.mark (h : TRes s i r) (hi : i < s.size) (hc : plainB s[i]) (hw : (wordL s i).1 = 0) {k n : Nat} (hm : markL (s.data.toList.drop i) = (k, n)) (hk : k ≠ 0) : ∃ r', r = tcons ⟨k, ⟨#[]⟩, i⟩ r' ∧ TRes s (i + n) r' := by
  obtain ⟨f, hf, rfl⟩ := h
  cases f with
  | zero => omega
  | succ f =>
    have hp := (markL_le (s.data.toList.drop i)).2.2 (by rw [hm]; exact hk)
    rw [hm] at hp
    simp only at hp
    refine ⟨scanGo s f (i + n), ?_, f, by omega, rfl⟩
    rw [scanGo_plain hi hc, hm, if_neg (by rw [hw]; simp), if_pos hk]
theorem TRes.none (h : TRes s i r) (hi : i < s.size) (hc : plainB s[i]) (hw : (wordL s i).1 = 0) (hm : (markL (s.data.toList.drop i)).1 = 0) : r = ([], i, 60) := by
  obtain ⟨f, hf, rfl⟩ := h
  cases f with
  | zero => omega
  | succ f => rw [scanGo_plain hi hc, if_neg (by rw [hw]; simp), if_neg (by rw [hm]; simp)]
end
def scanL (s : ByteArray) : List Tok × Nat × Nat := scanGo s (s.size + 1) 0
theorem scanL_res (s : ByteArray) : TRes s 0 (scanL s) := ⟨_, by omega, rfl⟩
/-- what is found: P6.1 -/
def foundL (s : ByteArray) : List Tok × Nat × Nat := if 65536 < s.size then ([], 0, 3) else scanL s
/-- what comes one by one: the tokens, and the error behind them -/
def seqOf (r : List Tok × Nat × Nat) : List (Tok × Nat) := r.1.map (·, 0) ++ if r.2.2 = 0 then [] else [(⟨0, ⟨#[]⟩, r.2.1⟩, r.2.2)]
theorem seqOf_tcons (t : Tok) (r : List Tok × Nat × Nat) : seqOf (tcons t r) = (t, 0) :: seqOf r := rfl
end Go.Proofs.YteecbbnpgmceiaaDoor
