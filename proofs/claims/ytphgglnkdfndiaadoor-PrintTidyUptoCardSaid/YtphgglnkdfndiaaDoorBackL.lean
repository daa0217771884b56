/-
  The plain law of LexBack: a text in quotes is scanned as what it was made of; a word as itself; tokens written out with blanks between as the same.
-/
import Derived.Test.YtphgglnkdfndiaaDoorPlacesL
import Derived.Test.YtphgglnkdfndiaaDoorBuQ
import Derived.Test.YtphgglnkdfndiaaDoorWrdG
namespace Go.Proofs.YtphgglnkdfndiaaDoor
open Go Go.RowKit Go.Mine
set_option maxHeartbeats 1000000
set_option maxRecDepth 100000
set_option linter.unusedVariables false

theorem sx_fig : ∀ n : Fin 256, sx (fig (UInt8.ofNat n.1 / 16)) = some (n.1 / 16) ∧ sx (fig (UInt8.ofNat n.1 % 16)) = some (n.1 % 16) := by decide +kernel
/-- a byte's piece, read back -/
theorem q1_spec (c : UInt8) : (q1 c = [c] ∧ c ≠ 34 ∧ c ≠ 92 ∧ 32 ≤ c.toNat ∧ c.toNat ≤ 126) ∨ (∃ p, q1 c = 92 :: p ∧ p ≠ [] ∧ ∀ r, escL (p ++ r) = (c, p.length)) := by
  unfold q1
  by_cases h1 : c = 34 ∨ c = 92
  · rw [if_pos h1]
    right
    refine ⟨[c], rfl, by simp, fun r => ?_⟩
    rcases h1 with rfl | rfl <;> rfl
  rw [if_neg h1]
  by_cases h2 : c = 10
  · rw [if_pos h2]; subst h2
    exact .inr ⟨[110], rfl, by simp, fun r => rfl⟩
  rw [if_neg h2]
  by_cases h3 : c = 9
  · rw [if_pos h3]; subst h3
    exact .inr ⟨[116], rfl, by simp, fun r => rfl⟩
  rw [if_neg h3]
  by_cases h4 : 32 ≤ c ∧ c ≤ 126
  · rw [if_pos h4]
    have a := UInt8.le_iff_toNat_le.1 h4.1
    have b := UInt8.le_iff_toNat_le.1 h4.2
    exact .inl ⟨rfl, fun h => h1 (.inl h), fun h => h1 (.inr h), a, b⟩
  · rw [if_neg h4]
    refine .inr ⟨[120, fig (c / 16), fig (c % 16)], rfl, by simp, fun r => ?_⟩
    have h := sx_fig ⟨c.toNat, c.toNat_lt⟩
    simp only [UInt8.ofNat_toNat] at h
    simp only [List.cons_append, List.nil_append, escL]
    rw [if_neg (by decide), if_neg (by decide), if_neg (by decide), if_neg (by decide), if_neg (by decide), h.1, h.2]
    simp only [List.length_cons, List.length_nil, Prod.mk.injEq, and_true]
    rw [← UInt8.toNat_inj, UInt8.toNat_ofNat']
    have := c.toNat_lt
    omega
theorem drop_cons {s : ByteArray} {i : Nat} {c : UInt8} {r : List UInt8} (h : s.data.toList.drop i = c :: r) : ∃ hi : i < s.size, s[i] = c ∧ s.data.toList.drop (i + 1) = r := by
  have hi : i < s.size := by
    rw [Lib.size_eq]
    by_cases hh : i < s.data.toList.length
    · exact hh
    · rw [List.drop_eq_nil_of_le (by omega)] at h; cases h
  have h2 : s.data.toList.drop i = s[i] :: s.data.toList.drop (i + 1) := List.drop_eq_getElem_cons (by simpa using hi)
  rw [h2] at h
  injection h with h3 h4
  exact ⟨hi, h3, h4⟩
theorem qGo_back (rest : List UInt8) : ∀ (l : List UInt8) (s : ByteArray) (i f : Nat) (acc : List UInt8), s.size - i < f → s.data.toList.drop i = l.flatMap q1 ++ 34 :: rest → qGo s f i acc = (acc ++ l, i + (l.flatMap q1).length + 1, true)
  | _, _, _, 0, _, h, _ => by omega
  | [], s, i, f + 1, acc, hf, h => by
    obtain ⟨hi, h1, h2⟩ := drop_cons (c := 34) (by simpa using h)
    rw [qGo, dif_pos hi, if_pos h1]
    simp
  | c :: l, s, i, f + 1, acc, hf, h => by
    rw [List.flatMap_cons] at h ⊢
    rcases q1_spec c with ⟨hq, h34, h92, hp⟩ | ⟨p, hq, hp, he⟩
    · rw [hq, List.append_assoc] at h
      obtain ⟨hi, h1, h2⟩ := drop_cons h
      rw [qGo, dif_pos hi, if_neg (by rw [h1]; exact h34), if_neg (by rw [h1]; exact h92), h1, if_pos hp]
      have h2 : s.data.toList.drop (i + 1) = l.flatMap q1 ++ 34 :: rest := h2
      rw [qGo_back rest l s (i + 1) f (acc ++ [c]) (by omega) h2, hq]
      simp only [List.append_assoc, List.length_cons, List.singleton_append, Prod.mk.injEq, and_true, true_and]
      omega
    · rw [hq, List.append_assoc, List.cons_append] at h
      obtain ⟨hi, h1, h2⟩ := drop_cons h
      have he2 := he (l.flatMap q1 ++ 34 :: rest)
      rw [qGo, dif_pos hi, if_neg (by rw [h1]; decide), if_pos h1, h2, he2]
      have hpl : p.length ≠ 0 := fun hh => hp (List.eq_nil_of_length_eq_zero hh)
      rw [if_neg hpl]
      have h3 : s.data.toList.drop (i + 1 + p.length) = l.flatMap q1 ++ 34 :: rest := by
        rw [← List.drop_drop, h2, List.drop_left]
      rw [qGo_back rest l s (i + 1 + p.length) f (acc ++ [c]) (by omega) h3, hq]
      simp only [List.append_assoc, List.length_append, List.length_cons, List.singleton_append, Prod.mk.injEq, and_true, true_and]
      omega
theorem quoteE_back {s : ByteArray} {i : Nat} {l rest : List UInt8} (h : s.data.toList.drop i = l.flatMap q1 ++ 34 :: rest) : quoteE s i = (l, i + (l.flatMap q1).length + 1, true) := by
  unfold quoteE
  rw [qGo_back rest l s i (s.size + 1) [] (by omega) h]
  rfl
theorem TRes.ofEnd {s : ByteArray} {i : Nat} (hi : ¬ i < s.size) : TRes s i ([], 0, 0) := ⟨s.size + 1, by omega, by rw [scanGo, dif_neg hi]⟩
theorem foundL_of {s : ByteArray} {r : List Tok × Nat × Nat} (hs : s.size ≤ 65536) (h : TRes s 0 r) : foundL s = r := by
  unfold foundL
  rw [if_neg (by omega)]
  exact (scanL_res s).uniq h
theorem ba_mk (s : ByteArray) : (⟨s.data.toList.toArray⟩ : ByteArray) = s := by cases s; simp
/-- a text in quotes -/
theorem found_quoted (s : ByteArray) (h : s.size < 16000) : foundL ⟨(quotedL s.data.toList).toArray⟩ = ([⟨3, s, 0⟩], 0, 0) := by
  have hlen : (quotedL s.data.toList).length ≤ 65536 := by
    have := q1s_len s.data.toList
    unfold quotedL
    simp only [List.length_append, List.length_cons, List.length_nil]
    rw [← Lib.size_eq] at this
    omega
  have hd : (⟨(quotedL s.data.toList).toArray⟩ : ByteArray).data.toList.drop 0 = 34 :: (s.data.toList.flatMap q1 ++ 34 :: []) := by
    simp [quotedL]
  obtain ⟨hi, h1, h2⟩ := drop_cons hd
  have hq := quoteE_back h2
  refine foundL_of hlen ?_
  have := TRes.ofQuote (r := ([], 0, 0)) hi h1 hq (TRes.ofEnd (by
    show ¬ _ < (quotedL s.data.toList).length
    unfold quotedL
    simp only [List.length_append, List.length_cons, List.length_nil]
    omega))
  rw [ba_mk] at this
  exact this
/-- what begins a word begins no blank, comment, text -/
theorem kind_plain {s : ByteArray} {i : Nat} (hi : i < s.size) (h : kindL s i ≠ 0) : plainB s[i] := by
  have key : ∀ c : UInt8, s[i] = c → c.toNat < 128 → kindR c.toNat = 0 → False := fun c hc h1 h2 => by
    apply h
    unfold kindL
    rw [if_pos hi, decode_ascii s i hi (by rw [hc]; exact h1), hc]
    exact h2
  refine ⟨fun h => key _ h (by decide) (by decide), fun h => key _ h (by decide) (by decide), fun h => key _ h (by decide) (by decide), fun h => key _ h (by decide) (by decide), fun h => key _ h (by decide) (by decide), fun h => key _ h (by decide) (by decide)⟩
theorem wordL_kind {s : ByteArray} {i k e : Nat} (hw : wordL s i = (k, e)) (hk : k ≠ 0) : kindL s i ≠ 0 ∧ i < s.size := by
  have h1 : kindL s i ≠ 0 := by
    unfold wordL at hw
    by_cases h : kindL s i = 0
    · rw [if_pos h] at hw
      simp only [Prod.mk.injEq] at hw
      omega
    · exact h
  refine ⟨h1, ?_⟩
  unfold kindL at h1
  by_cases h : i < s.size
  · exact h
  · rw [if_neg h] at h1; exact absurd rfl h1
theorem Word_eq {s : ByteArray} (h : Word s ≠ 0) : wordL s 0 = (Word s, s.size) := by
  have hle := wordL_le s 0 (Nat.zero_le _)
  unfold Word at *
  by_cases hlt : (wordL s 0).2 < s.size
  · rw [if_pos hlt] at h; exact absurd rfl h
  · rw [if_neg hlt]
    have : (wordL s 0).2 = s.size := by omega
    rw [← this]
theorem found_word (s : ByteArray) (hs : s.size ≤ 65536) (h : Word s ≠ 0) : foundL s = ([⟨Word s, s, 0⟩], 0, 0) := by
  have hw := Word_eq h
  obtain ⟨hk, hi⟩ := wordL_kind hw h
  refine foundL_of hs ?_
  have := TRes.ofWord (r := ([], 0, 0)) hi (kind_plain hi hk) hw h (TRes.ofEnd (by omega))
  rw [ByteArray.extract_zero_size] at this
  exact this

/-- decoding by four bytes -/
def dcB (b0 b1 b2 b3 : Nat) (c1 c2 c3 : Bool) : Nat × Nat :=
  if b0 < 0x80 then (b0, 1)
  else if b0 / 32 == 6 && c1 then if (b0 % 32) * 64 + b1 % 64 ≥ 0x80 then ((b0 % 32) * 64 + b1 % 64, 2) else (0xFFFD, 1)
  else if b0 / 16 == 14 && c1 && c2 then if (b0 % 16) * 4096 + (b1 % 64) * 64 + b2 % 64 ≥ 0x800 && Utf8.valid ((b0 % 16) * 4096 + (b1 % 64) * 64 + b2 % 64 : Nat) then ((b0 % 16) * 4096 + (b1 % 64) * 64 + b2 % 64, 3) else (0xFFFD, 1)
  else if b0 / 8 == 30 && c1 && c2 && c3 then if (b0 % 8) * 262144 + (b1 % 64) * 4096 + (b2 % 64) * 64 + b3 % 64 ≥ 0x10000 && Utf8.valid ((b0 % 8) * 262144 + (b1 % 64) * 4096 + (b2 % 64) * 64 + b3 % 64 : Nat) then ((b0 % 8) * 262144 + (b1 % 64) * 4096 + (b2 % 64) * 64 + b3 % 64, 4) else (0xFFFD, 1)
  else (0xFFFD, 1)
theorem decode_dcB (s : ByteArray) (i : Nat) : Utf8.decode s i = dcB (s.get! i).toNat (s.get! (i + 1)).toNat (s.get! (i + 2)).toNat (s.get! (i + 3)).toNat
    (decide (i + 1 < s.size) && (s.get! (i + 1)).toNat / 64 == 2) (decide (i + 2 < s.size) && (s.get! (i + 2)).toNat / 64 == 2) (decide (i + 3 < s.size) && (s.get! (i + 3)).toNat / 64 == 2) := rfl
theorem dcB_3 {b0 b1 b2 b3 b3' : Nat} {c1 c2 c3 : Bool} (h : (dcB b0 b1 b2 b3 c1 c2 c3).2 ≤ 3) : dcB b0 b1 b2 b3' c1 c2 false = dcB b0 b1 b2 b3 c1 c2 c3 := by
  unfold dcB at *
  simp only [Bool.and_false, Bool.false_eq_true, if_false]
  repeat' split
  all_goals first
    | rfl
    | (simp_all; done)
theorem dcB_2 {b0 b1 b2 b2' b3 b3' : Nat} {c1 c2 c3 : Bool} (h : (dcB b0 b1 b2 b3 c1 c2 c3).2 ≤ 2) : dcB b0 b1 b2' b3' c1 false false = dcB b0 b1 b2 b3 c1 c2 c3 := by
  unfold dcB at *
  simp only [Bool.and_false, Bool.false_eq_true, if_false]
  repeat' split
  all_goals first
    | rfl
    | (simp_all; done)
theorem dcB_1 {b0 b1 b1' b2 b2' b3 b3' : Nat} {c1 c2 c3 : Bool} (h : (dcB b0 b1 b2 b3 c1 c2 c3).2 ≤ 1) : dcB b0 b1' b2' b3' false false false = dcB b0 b1 b2 b3 c1 c2 c3 := by
  unfold dcB at *
  simp only [Bool.and_false, Bool.false_eq_true, if_false]
  repeat' split
  all_goals first
    | rfl
    | (simp_all; done)
theorem cut_get {u : ByteArray} {n j : Nat} (h : j < n) : (u.extract 0 n).get! j = u.get! j := by
  rw [getD_list, getD_list, ext_data, List.drop_zero, Nat.sub_zero, List.getD_eq_getElem?_getD, List.getD_eq_getElem?_getD, List.getElem?_take, if_pos h]
theorem cut_size {u : ByteArray} {n : Nat} (h : n ≤ u.size) : (u.extract 0 n).size = n := by
  rw [Lib.size_eq, ext_data, List.drop_zero, Nat.sub_zero, List.length_take, ← Lib.size_eq]; omega
theorem decode_cut {u : ByteArray} {n j : Nat} (hn : n ≤ u.size) (hj : j < n) (h : j + (Utf8.decode u j).2 ≤ n) : Utf8.decode (u.extract 0 n) j = Utf8.decode u j := by
  rw [decode_dcB] at h
  rw [decode_dcB u j, decode_dcB (u.extract 0 n) j, cut_size hn, cut_get hj]
  by_cases h1 : j + 1 < n
  · rw [cut_get h1, decide_eq_true h1, decide_eq_true (show j + 1 < u.size by omega)]
    rw [decide_eq_true (show j + 1 < u.size by omega)] at h
    by_cases h2 : j + 2 < n
    · rw [cut_get h2, decide_eq_true h2, decide_eq_true (show j + 2 < u.size by omega)]
      rw [decide_eq_true (show j + 2 < u.size by omega)] at h
      by_cases h3 : j + 3 < n
      · rw [cut_get h3, decide_eq_true h3, decide_eq_true (show j + 3 < u.size by omega)]
      · rw [decide_eq_false h3, Bool.false_and]
        exact dcB_3 (by omega)
    · rw [decide_eq_false h2, decide_eq_false (show ¬ j + 3 < n by omega), Bool.false_and, Bool.false_and]
      exact dcB_2 (by omega)
  · rw [decide_eq_false h1, decide_eq_false (show ¬ j + 2 < n by omega), decide_eq_false (show ¬ j + 3 < n by omega), Bool.false_and, Bool.false_and, Bool.false_and]
    exact dcB_1 (by omega)
theorem endL_ge (s : ByteArray) : ∀ (f i : Nat), i ≤ endL s f i
  | 0, i => Nat.le_refl _
  | f + 1, i => by
    rw [endL]
    split
    · exact Nat.le_refl _
    · have := endL_ge s f (i + partL s i); omega
theorem endL_cut {u : ByteArray} {n : Nat} (hn : n ≤ u.size) : ∀ (f j : Nat), j ≤ n → endL u f j = n → endL (u.extract 0 n) f j = n
  | 0, j, _, h => h
  | f + 1, j, hj, h => by
    rw [endL] at h
    by_cases hp : partL u j = 0
    · rw [if_pos hp] at h
      subst h
      exact endL_stop (by unfold partL; rw [if_neg (by rw [cut_size hn]; omega)])
    · rw [if_neg hp] at h
      have hge := endL_ge u f (j + partL u j)
      have hlt : j < n := by omega
      have hpu : partL u j = (Utf8.decode u j).2 := by
        unfold partL at hp ⊢
        split at hp
        · rename_i hh; rw [if_pos hh]
        · exact absurd rfl hp
      have hpc : j < u.size ∧ isPart (Utf8.decode u j).1 = true := by
        unfold partL at hp
        split at hp
        · rename_i hh; exact hh
        · exact absurd rfl hp
      have hd := decode_cut hn hlt (by rw [← hpu]; omega)
      have hpv : partL (u.extract 0 n) j = partL u j := by
        unfold partL
        rw [hd, cut_size hn, if_pos ⟨hlt, hpc.2⟩, if_pos hpc]
      rw [endL, hpv, if_neg hp]
      exact endL_cut hn f _ (by omega) h
theorem word_cut0 {u : ByteArray} {k n : Nat} (hw : wordL u 0 = (k, n)) (hk : k ≠ 0) : wordL (u.extract 0 n) 0 = (k, n) ∧ n ≤ u.size ∧ 0 < n := by
  have hpos := wordL_pos (Nat.zero_le u.size) (by rw [hw]; exact hk)
  rw [hw] at hpos
  simp only at hpos
  obtain ⟨hkd, hi⟩ := wordL_kind hw hk
  have hn := hpos.2.1
  have hwe : kindL u 0 = k ∧ endL u u.size 0 = n := by
    unfold wordL at hw
    rw [if_neg hkd] at hw
    simpa using hw
  have hp : partL u 0 ≠ 0 ∧ isPart (Utf8.decode u 0).1 = true := by
    have : isPart (Utf8.decode u 0).1 = true := by
      cases hh : isPart (Utf8.decode u 0).1
      · have := (kindR_part _).2 hh
        unfold kindL at hkd
        rw [if_pos hi] at hkd
        exact absurd this hkd
      · rfl
    refine ⟨?_, this⟩
    unfold partL
    rw [if_pos ⟨hi, this⟩]
    have := (decode_width u 0 hi).1
    omega
  have hd : Utf8.decode (u.extract 0 n) 0 = Utf8.decode u 0 := by
    refine decode_cut hn hpos.1 ?_
    have h1 : partL u 0 = (Utf8.decode u 0).2 := by unfold partL; rw [if_pos ⟨hi, hp.2⟩]
    have h2 := hwe.2
    cases hz : u.size with
    | zero => omega
    | succ m =>
      rw [hz, endL, if_neg hp.1] at h2
      have := endL_ge u m (0 + partL u 0)
      omega
  have hkv : kindL (u.extract 0 n) 0 = k := by
    rw [← hwe.1]
    unfold kindL
    rw [if_pos hi, if_pos (by rw [cut_size hn]; exact hpos.1), hd]
  refine ⟨?_, hn, hpos.1⟩
  unfold wordL
  rw [hkv, if_neg hk]
  congr 1
  have he := endL_cut hn u.size 0 (Nat.zero_le _) hwe.2
  exact End.unique (Nat.zero_le _) ⟨_, by omega, rfl⟩ ⟨u.size, by rw [cut_size hn]; omega, he.symm⟩
theorem word_cut {s : ByteArray} {i k e : Nat} (hi : i ≤ s.size) (hw : wordL s i = (k, e)) (hk : k ≠ 0) : wordL (s.extract i e) 0 = (k, (s.extract i e).size) := by
  have hsh := wordL_shift hi
  rw [hw] at hsh
  rcases hu : wordL (s.extract i s.size) 0 with ⟨k', n⟩
  rw [hu] at hsh
  simp only [Prod.mk.injEq] at hsh
  obtain ⟨rfl, rfl⟩ := hsh
  obtain ⟨h1, h2, h3⟩ := word_cut0 hu hk
  rw [ext_size] at h2
  have he : s.extract i (i + n) = (s.extract i s.size).extract 0 n := by
    apply ByteArray.ext
    apply Array.ext'
    rw [ext_data, ext_data, ext_drop]
    simp
  rw [he, h1, cut_size (by rw [ext_size]; exact h2)]

/-- what a token that was scanned is -/
def Good (t : Tok) : Prop := t.kind = 3 ∨ ((t.kind = 1 ∨ t.kind = 2) ∧ wordL t.text 0 = (t.kind, t.text.size)) ∨ (4 ≤ t.kind ∧ t.kind ≤ 13 ∧ t.text = ⟨#[]⟩)
theorem qGo_few {s : ByteArray} : ∀ (f i : Nat) (acc : List UInt8), i ≤ s.size → (qGo s f i acc).1.length ≤ acc.length + (s.size - i)
  | 0, i, acc, h => by simp [qGo]
  | f + 1, i, acc, h => by
    rw [qGo]
    by_cases hi : i < s.size
    · rw [dif_pos hi]
      by_cases h34 : s[i] = 34
      · rw [if_pos h34]; simp
      · rw [if_neg h34]
        by_cases h92 : s[i] = 92
        · rw [if_pos h92]
          have hl := escL_le (s.data.toList.drop (i + 1))
          rw [List.length_drop, ← Lib.size_eq] at hl
          by_cases he : (escL (s.data.toList.drop (i + 1))).2 = 0
          · rw [if_pos he]; simp
          · rw [if_neg he]
            have := qGo_few (s := s) f (i + 1 + (escL (s.data.toList.drop (i + 1))).2) (acc ++ [(escL (s.data.toList.drop (i + 1))).1]) (by omega)
            simp only [List.length_append, List.length_cons, List.length_nil] at this
            omega
        · rw [if_neg h92]
          by_cases hp : 32 ≤ s[i].toNat ∧ s[i].toNat ≤ 126
          · rw [if_pos hp]
            have := qGo_few (s := s) f (i + 1) (acc ++ [s[i]]) (by omega)
            simp only [List.length_append, List.length_cons, List.length_nil] at this
            omega
          · rw [if_neg hp]
            have hw := decode_width s i hi
            by_cases hd : (Utf8.decode s i).1 < 128 ∨ ((Utf8.decode s i).1 = 65533 ∧ (Utf8.decode s i).2 = 1)
            · rw [if_pos hd]; simp
            · rw [if_neg hd]
              have := qGo_few (s := s) f (i + (Utf8.decode s i).2) (acc ++ (s.data.toList.drop i).take (Utf8.decode s i).2) (by omega)
              simp only [List.length_append, List.length_take, List.length_drop] at this
              omega
    · rw [dif_neg hi]; simp
theorem markL_kind (l : List UInt8) : (markL l).1 ≠ 0 → 4 ≤ (markL l).1 := by
  unfold markL
  split <;> simp
theorem ext_le (s : ByteArray) (i e : Nat) : (s.extract i e).size ≤ s.size := by
  rw [Lib.size_eq, Lib.size_eq, ext_data, List.length_take, List.length_drop]; omega
theorem scanGo_good {s : ByteArray} : ∀ (f i : Nat), i ≤ s.size → ∀ t ∈ (scanGo s f i).1, Good t ∧ t.text.size ≤ s.size
  | 0, i, _, t, h => by simp [scanGo] at h
  | f + 1, i, hi, t, h => by
    rw [scanGo] at h
    by_cases hl : i < s.size
    · rw [dif_pos hl] at h
      by_cases hb : s[i] = 32 ∨ s[i] = 9 ∨ s[i] = 10 ∨ s[i] = 13
      · rw [if_pos hb] at h; exact scanGo_good f (i + 1) hl t h
      rw [if_neg hb] at h
      by_cases hc : s[i] = 37
      · rw [if_pos hc] at h; exact scanGo_good f (cmtE s i) (cmtE_le hi) t h
      rw [if_neg hc] at h
      by_cases hq : s[i] = 34
      · rw [if_pos hq] at h
        by_cases hok : (quoteE s (i + 1)).2.2 = true
        · rw [if_pos hok] at h
          have hle : (quoteE s (i + 1)).2.1 ≤ s.size := (qGo_le (s := s) (s.size + 1) (i + 1) [] (by omega)).2.1
          have hfe : (quoteE s (i + 1)).1.length ≤ 0 + (s.size - (i + 1)) := qGo_few (s := s) (s.size + 1) (i + 1) [] (by omega)
          rcases List.mem_cons.1 h with rfl | h
          · exact ⟨.inl rfl, by show (quoteE s (i + 1)).1.length ≤ _; omega⟩
          · exact scanGo_good f _ hle t h
        · rw [if_neg hok] at h; cases h
      rw [if_neg hq] at h
      by_cases hw : (wordL s i).1 ≠ 0
      · rw [if_pos hw] at h
        have hp := wordL_pos hi hw
        rcases List.mem_cons.1 h with rfl | h
        · refine ⟨.inr (.inl ⟨?_, word_cut hi rfl hw⟩), ext_le _ _ _⟩
          show (wordL s i).1 = 1 ∨ (wordL s i).1 = 2
          omega
        · exact scanGo_good f _ hp.2.1 t h
      rw [if_neg hw] at h
      have hm := markL_le (s.data.toList.drop i)
      rw [List.length_drop, ← Lib.size_eq] at hm
      by_cases hk : (markL (s.data.toList.drop i)).1 ≠ 0
      · rw [if_pos hk] at h
        rcases List.mem_cons.1 h with rfl | h
        · exact ⟨.inr (.inr ⟨markL_kind _ hk, hm.2.1, rfl⟩), Nat.zero_le _⟩
        · exact scanGo_good f _ (by omega) t h
      · rw [if_neg hk] at h; cases h
    · rw [dif_neg hl] at h; cases h
/-- the marks as texts, by their kind -/
def marksW : List (List UInt8) := [[], [], [], [], [40], [41], [44], [46], [58, 45], [33], [61], [33, 61], [60], [60, 61]]
/-- a token as a text -/
def writtenL (t : Tok) : List UInt8 := if t.kind = 1 ∨ t.kind = 2 then t.text.data.toList else if t.kind = 3 then quotedL t.text.data.toList else marksW.getD t.kind []
def outL (ts : List Tok) : List UInt8 := ts.flatMap fun t => writtenL t ++ [32]
theorem marksW_law : ∀ k : Nat, 4 ≤ k → k ≤ 13 → ∀ r : List UInt8, markL (marksW.getD k [] ++ 32 :: r) = (k, (marksW.getD k []).length) ∧ ∃ c m, marksW.getD k [] = c :: m ∧ c.toNat < 128 ∧ kindR c.toNat = 0 ∧ plainB c := by
  intro k h1 h2 r
  have hc : k = 4 ∨ k = 5 ∨ k = 6 ∨ k = 7 ∨ k = 8 ∨ k = 9 ∨ k = 10 ∨ k = 11 ∨ k = 12 ∨ k = 13 := by omega
  rcases hc with rfl | rfl | rfl | rfl | rfl | rfl | rfl | rfl | rfl | rfl <;>
    exact ⟨rfl, _, _, rfl, by decide, by decide, by decide, by decide, by decide, by decide, by decide, by decide⟩
theorem scan_back {s : ByteArray} : ∀ (ts : List Tok) (i : Nat), (∀ t ∈ ts, Good t) → s.data.toList.drop i = outL ts → ∃ r : List Tok, TRes s i (r, 0, 0) ∧ r.map (fun t => (t.kind, t.text)) = ts.map (fun t => (t.kind, t.text))
  | [], i, _, h => ⟨[], TRes.ofEnd (by
      have := congrArg List.length h
      rw [List.length_drop, ← Lib.size_eq] at this
      simp [outL] at this
      omega), rfl⟩
  | t :: ts, i, hg, h => by
    have h0 : s.data.toList.drop i = writtenL t ++ 32 :: outL ts := by rw [h]; simp [outL]
    have hrest : s.data.toList.drop (i + (writtenL t).length) = 32 :: outL ts := by rw [← List.drop_drop, h0, List.drop_left]
    obtain ⟨hb, hb1, hb2⟩ := drop_cons hrest
    obtain ⟨r, hr, hm⟩ := scan_back ts _ (fun x hx => hg x (List.mem_cons_of_mem _ hx)) hb2
    have hr2 := TRes.ofBlank hb (.inl hb1) hr
    have hi : i ≤ s.size := by omega
    rcases hg t (List.mem_cons_self ..) with hk | ⟨hk, hw⟩ | ⟨hk1, hk2, htx⟩
    · have hwr : writtenL t = 34 :: (t.text.data.toList.flatMap q1 ++ [34]) := by unfold writtenL; rw [if_neg (by omega), if_pos hk]; rfl
      rw [hwr, List.cons_append, List.append_assoc] at h0
      obtain ⟨hi', h1, h2⟩ := drop_cons h0
      have hq := quoteE_back (l := t.text.data.toList) (rest := 32 :: outL ts) (by simpa using h2)
      have he : i + 1 + (t.text.data.toList.flatMap q1).length + 1 = i + (writtenL t).length := by
        rw [hwr]; simp only [List.length_cons, List.length_append, List.length_nil]; omega
      rw [he] at hq
      have := TRes.ofQuote hi' h1 hq hr2
      refine ⟨_, this, ?_⟩
      simp only [List.map_cons, hm, ba_mk, hk]
    · have hwr : writtenL t = t.text.data.toList := by unfold writtenL; rw [if_pos hk]
      rw [hwr] at h0 hr2
      have hkz : t.kind ≠ 0 := by omega
      have hgo : GoesOn t.text (s.extract i s.size) := ⟨⟨outL ts, by rw [ext_drop, h0]⟩⟩
      obtain ⟨hkd, hpos⟩ := wordL_kind hw hkz
      have hwu := hgo.wordL hpos
      rw [hw] at hwu
      have hws := wordL_shift hi
      rw [hwu] at hws
      simp only at hws
      obtain ⟨hkd2, hi'⟩ := wordL_kind hws hkz
      rw [← Lib.size_eq] at hr2
      have := TRes.ofWord hi' (kind_plain hi' hkd2) hws hkz hr2
      refine ⟨_, this, ?_⟩
      have hx : s.extract i (i + t.text.size) = t.text := by
        apply ByteArray.ext
        apply Array.ext'
        rw [ext_data, h0, Nat.add_sub_cancel_left, Lib.size_eq, List.take_left]
      simp only [List.map_cons, hm, hx]
    · have hwr : writtenL t = marksW.getD t.kind [] := by unfold writtenL; rw [if_neg (by omega), if_neg (by omega)]
      obtain ⟨hml, c, m, hcm, hc1, hc2, hc3⟩ := marksW_law t.kind hk1 hk2 (outL ts)
      rw [hwr] at h0 hr2
      rw [← h0] at hml
      rw [hcm, List.cons_append] at h0
      obtain ⟨hi', h1, h2⟩ := drop_cons h0
      have hw0 : (wordL s i).1 = 0 := by
        have : kindL s i = 0 := by unfold kindL; rw [if_pos hi', decode_ascii s i hi' (by rw [h1]; exact hc1), h1]; exact hc2
        rw [wordL_no this]
      have := TRes.ofMark hi' (by rw [h1]; exact hc3) hw0 hml (by omega) hr2
      refine ⟨_, this, ?_⟩
      simp only [List.map_cons, hm, htx]
theorem writtenL_len (t : Tok) : (writtenL t).length ≤ 4 * t.text.size + 2 := by
  unfold writtenL
  split
  · rw [← Lib.size_eq]; omega
  · split
    · have := q1s_len t.text.data.toList
      rw [← Lib.size_eq] at this
      unfold quotedL
      simp only [List.length_append, List.length_cons, List.length_nil]
      omega
    · unfold marksW
      rw [List.getD_eq_getElem?_getD]
      match t.kind with
      | 0 | 1 | 2 | 3 | 4 | 5 | 6 | 7 | 8 | 9 | 10 | 11 | 12 | 13 => simp
      | n + 14 => simp
end Go.Proofs.YtphgglnkdfndiaaDoor
