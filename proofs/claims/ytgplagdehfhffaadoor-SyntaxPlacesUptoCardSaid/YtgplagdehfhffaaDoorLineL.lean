/-
  A text, an end of a line, and whatever: the tokens of the text stay what they are.
-/
import Derived.Test.YtgplagdehfhffaaDoorBackL
import Derived.Test.YtgplagdehfhffaaDoorPlacesL
namespace Go.Proofs.YtgplagdehfhffaaDoor
open Go Go.RowKit Go.Mine
set_option linter.unusedVariables false

/-- a text that goes on behind an end of a line -/
structure GoesLn (s t : ByteArray) : Prop where
  ex : ∃ b, t.data.toList = s.data.toList ++ 10 :: b
section
variable {s t : ByteArray}
theorem GoesLn.lt (h : GoesLn s t) : s.size < t.size := by
  obtain ⟨b, hb⟩ := h.ex
  have := congrArg List.length hb
  rw [List.length_append, ← Lib.size_eq, ← Lib.size_eq, List.length_cons] at this
  omega
theorem GoesLn.same (h : GoesLn s t) : ∀ i, i < s.size → t.get! i = s.get! i := fun i hi => by
  obtain ⟨b, hb⟩ := h.ex
  rw [getD_list, getD_list, hb, List.getD_eq_getElem?_getD, List.getD_eq_getElem?_getD, List.getElem?_append_left (by rw [← Lib.size_eq]; exact hi)]
theorem GoesLn.blank (h : GoesLn s t) : t.get! s.size = 10 := by
  obtain ⟨b, hb⟩ := h.ex
  rw [getD_list, hb, List.getD_eq_getElem?_getD, List.getElem?_append_right (by rw [← Lib.size_eq]; omega), ← Lib.size_eq, Nat.sub_self]; rfl
theorem GoesLn.at (h : GoesLn s t) {i : Nat} (hi : i < s.size) (hi' : i < t.size) : t[i] = s[i] := by
  have := h.same i hi
  rw [show t.get! i = t[i] by simpa using get_at t i hi', show s.get! i = s[i] by simpa using get_at s i hi] at this
  exact this
theorem GoesLn.drop (h : GoesLn s t) {i : Nat} (hi : i ≤ s.size) : ∃ b, t.data.toList.drop i = s.data.toList.drop i ++ 10 :: b := by
  obtain ⟨b, hb⟩ := h.ex
  exact ⟨b, by rw [hb, List.drop_append_of_le_length (by rw [← Lib.size_eq]; exact hi)]⟩
theorem GoesLn.extract (h : GoesLn s t) {i e : Nat} (hi : i ≤ s.size) (he : e ≤ s.size) : t.extract i e = s.extract i e := by
  obtain ⟨b, hb⟩ := h.drop hi
  apply ByteArray.ext
  apply Array.ext'
  rw [ext_data, ext_data, hb, List.take_append_of_le_length (by rw [List.length_drop, ← Lib.size_eq]; omega)]
theorem GoesLn.decode (h : GoesLn s t) {i : Nat} (hi : i < s.size) : Utf8.decode t i = Utf8.decode s i := by
  have hlt := h.lt
  have e0 := h.same i hi
  have c : ∀ k, i + k < s.size → t.get! (i + k) = s.get! (i + k) := fun k hk => h.same _ hk
  have nb : ∀ k, i + k = s.size → ((t.get! (i + k)).toNat / 64 == 2) = false := fun k hk => by rw [hk, h.blank]; decide
  unfold Utf8.decode
  simp only [Nat.add_zero, e0]
  by_cases h1 : i + 1 < s.size
  · have e1 := c 1 h1
    by_cases h2 : i + 2 < s.size
    · have e2 := c 2 h2
      by_cases h3 : i + 3 < s.size
      · have e3 := c 3 h3
        rw [e1, e2, e3, decide_eq_true h1, decide_eq_true h2, decide_eq_true h3, decide_eq_true (show i + 1 < t.size by omega), decide_eq_true (show i + 2 < t.size by omega), decide_eq_true (show i + 3 < t.size by omega)]
      · rw [e1, e2, decide_eq_true h1, decide_eq_true h2, decide_eq_false h3, decide_eq_true (show i + 1 < t.size by omega), decide_eq_true (show i + 2 < t.size by omega)]
        have hf : (decide (i + 3 < t.size) && (t.get! (i + 3)).toNat / 64 == 2) = false := by rw [nb 3 (by omega)]; simp
        rw [hf]
        simp
    · have hf : (decide (i + 2 < t.size) && (t.get! (i + 2)).toNat / 64 == 2) = false := by rw [nb 2 (by omega)]; simp
      rw [e1, decide_eq_true h1, decide_eq_false h2, decide_eq_true (show i + 1 < t.size by omega), hf]
      simp
  · have hf : (decide (i + 1 < t.size) && (t.get! (i + 1)).toNat / 64 == 2) = false := by rw [nb 1 (by omega)]; simp
    rw [decide_eq_false h1, hf]
    simp
theorem GoesLn.qGo (h : GoesLn s t) : ∀ (f i : Nat) (acc : List UInt8), i ≤ s.size → (Proofs.YtgplagdehfhffaaDoor.qGo s f i acc).2.2 = true → Proofs.YtgplagdehfhffaaDoor.qGo t f i acc = Proofs.YtgplagdehfhffaaDoor.qGo s f i acc
  | 0, i, acc, _, hk => by simp [Proofs.YtgplagdehfhffaaDoor.qGo] at hk
  | f + 1, i, acc, hi, hk => by
    have hlt := h.lt
    rw [Proofs.YtgplagdehfhffaaDoor.qGo] at hk
    rw [Proofs.YtgplagdehfhffaaDoor.qGo, Proofs.YtgplagdehfhffaaDoor.qGo]
    by_cases hl : i < s.size
    · rw [dif_pos hl] at hk
      rw [dif_pos hl, dif_pos (show i < t.size by omega), h.at hl (by omega), h.decode hl]
      by_cases h34 : s[i] = 34
      · rw [if_pos h34, if_pos h34]
      rw [if_neg h34, if_neg h34]
      rw [if_neg h34] at hk
      obtain ⟨b, hb⟩ := h.drop (i := i + 1) hl
      obtain ⟨b0, hb0⟩ := h.drop (i := i) hi
      by_cases h92 : s[i] = 92
      · rw [if_pos h92, if_pos h92]
        rw [if_pos h92] at hk
        have hle := escL_le (s.data.toList.drop (i + 1))
        rw [List.length_drop, ← Lib.size_eq] at hle
        by_cases he : (escL (s.data.toList.drop (i + 1))).2 = 0
        · rw [if_pos he] at hk; exact absurd hk (by simp)
        · rw [if_neg he] at hk
          have e2 := escL_app (m := 10 :: b) he
          rw [← hb] at e2
          rw [e2, if_neg he, if_neg he]
          exact h.qGo f _ _ (by omega) hk
      rw [if_neg h92, if_neg h92]
      rw [if_neg h92] at hk
      by_cases hp : 32 ≤ s[i].toNat ∧ s[i].toNat ≤ 126
      · rw [if_pos hp, if_pos hp]
        rw [if_pos hp] at hk
        exact h.qGo f _ _ (by omega) hk
      rw [if_neg hp, if_neg hp]
      rw [if_neg hp] at hk
      have hw := decode_width s i hl
      by_cases hd : (Utf8.decode s i).1 < 128 ∨ ((Utf8.decode s i).1 = 65533 ∧ (Utf8.decode s i).2 = 1)
      · rw [if_pos hd] at hk; exact absurd hk (by simp)
      · rw [if_neg hd] at hk
        rw [if_neg hd, if_neg hd, hb0, List.take_append_of_le_length (by rw [List.length_drop, ← Lib.size_eq]; omega)]
        exact h.qGo f _ _ (by omega) hk
    · rw [dif_neg hl] at hk; exact absurd hk (by simp)
theorem GoesLn.partL (h : GoesLn s t) {i : Nat} (hi : i ≤ s.size) : Proofs.YtgplagdehfhffaaDoor.partL t i = Proofs.YtgplagdehfhffaaDoor.partL s i := by
  have hlt := h.lt
  unfold Proofs.YtgplagdehfhffaaDoor.partL
  by_cases hl : i < s.size
  · rw [h.decode hl]
    simp only [hl, show i < t.size by omega, true_and]
  · obtain rfl : i = s.size := by omega
    have hd : Utf8.decode t s.size = (10, 1) := by
      have h32 : t[s.size].toNat = 10 := by
        have := h.blank
        rw [show t.get! s.size = t[s.size] by simpa using get_at t s.size hlt] at this
        rw [this]; rfl
      rw [decode_ascii t s.size hlt (by omega), h32]
    rw [hd, if_neg (by rintro ⟨_, hh⟩; exact absurd hh (by decide)), if_neg (by rintro ⟨hh, _⟩; exact hl hh)]
theorem GoesLn.endL (h : GoesLn s t) : ∀ (f i : Nat), i ≤ s.size → Proofs.YtgplagdehfhffaaDoor.endL t f i = Proofs.YtgplagdehfhffaaDoor.endL s f i
  | 0, i, _ => rfl
  | f + 1, i, hi => by
    rw [Proofs.YtgplagdehfhffaaDoor.endL, Proofs.YtgplagdehfhffaaDoor.endL, h.partL hi]
    split
    · rfl
    · exact h.endL f _ (partL_le hi)
theorem GoesLn.wordL (h : GoesLn s t) {i : Nat} (hi : i < s.size) : Proofs.YtgplagdehfhffaaDoor.wordL t i = Proofs.YtgplagdehfhffaaDoor.wordL s i := by
  have hlt := h.lt
  have hk : kindL t i = kindL s i := by
    unfold kindL
    rw [if_pos hi, if_pos (show i < t.size by omega), h.decode hi]
  unfold Proofs.YtgplagdehfhffaaDoor.wordL
  rw [hk]
  split
  · rfl
  · rw [h.endL t.size i (Nat.le_of_lt hi)]
    congr 1
    exact End.unique (Nat.le_of_lt hi) ⟨_, by omega, rfl⟩ ⟨_, by omega, rfl⟩
theorem markL_app10 {l m : List UInt8} (h : l ≠ []) : markL (l ++ 10 :: m) = markL l := by
  rcases l with _ | ⟨a, _ | ⟨b, r⟩⟩
  · exact absurd rfl h
  · rw [List.cons_append, List.nil_append]
    unfold markL
    split <;> simp_all
  · rw [List.cons_append, List.cons_append, markL_two2, markL_two2]
theorem takeWhile10 (b : List UInt8) : ∀ l : List UInt8, (l ++ 10 :: b).takeWhile (· != 10) = l.takeWhile (· != 10)
  | [] => by simp
  | c :: l => by
    rw [List.cons_append, List.takeWhile_cons, List.takeWhile_cons, takeWhile10 b l]
theorem GoesLn.cmtE (h : GoesLn s t) {i : Nat} (hi : i ≤ s.size) : Proofs.YtgplagdehfhffaaDoor.cmtE t i = Proofs.YtgplagdehfhffaaDoor.cmtE s i := by
  obtain ⟨b, hb⟩ := h.drop hi
  unfold Proofs.YtgplagdehfhffaaDoor.cmtE
  rw [hb, takeWhile10]
theorem TRes.ofCmt {i : Nat} {r : List Tok × Nat × Nat} (hi : i < s.size) (hc : s[i] = 37) (h : TRes s (Proofs.YtgplagdehfhffaaDoor.cmtE s i) r) : TRes s i r := by
  obtain ⟨f, hf, rfl⟩ := h
  have := cmtE_pos hi hc
  refine ⟨f + s.size + 1, by omega, ?_⟩
  have hfu : scanGo s f (Proofs.YtgplagdehfhffaaDoor.cmtE s i) = scanGo s (f + s.size) (Proofs.YtgplagdehfhffaaDoor.cmtE s i) := scanGo_fuel f _ _ hf (by omega)
  rw [hfu, scanGo, dif_pos hi, if_neg (by rw [hc]; decide), if_pos hc]
theorem GoesLn.scan (h : GoesLn s t) {r : List Tok × Nat × Nat} (hr : TRes t (s.size + 1) r) : ∀ (n i : Nat), s.size - i = n → i ≤ s.size → ∀ (ts : List Tok) (p : Nat), TRes s i (ts, p, 0) → TRes t i (ts ++ r.1, r.2) := by
  have hlt := h.lt
  intro n
  induction n using Nat.strongRecOn with
  | _ n ih =>
    intro i hn hi ts p hT
    by_cases hl : i < s.size
    · have hl' : i < t.size := by omega
      have hat := h.at hl hl'
      by_cases hb : s[i] = 32 ∨ s[i] = 9 ∨ s[i] = 10 ∨ s[i] = 13
      · exact TRes.ofBlank hl' (by rw [hat]; exact hb) (ih _ (by omega) (i + 1) rfl hl ts p (hT.blank hl hb))
      by_cases hc : s[i] = 37
      · have hp := cmtE_pos hl hc
        have hle := cmtE_le hi
        have := ih _ (by omega) (Proofs.YtgplagdehfhffaaDoor.cmtE s i) rfl hle ts p (hT.cmt hl hc)
        rw [← h.cmtE hi] at this
        exact TRes.ofCmt hl' (by rw [hat]; exact hc) this
      by_cases hq : s[i] = 34
      · rcases hqe : quoteE s (i + 1) with ⟨x, e, ok⟩
        cases ok with
        | false => have := hT.quote0 hl hq hqe; simp at this
        | true =>
          obtain ⟨r', h1, h2⟩ := hT.quote1 hl hq hqe
          obtain ⟨ts', rfl, rfl⟩ := tcons_inv h1
          have hle := qGo_le (s := s) (s.size + 1) (i + 1) [] (by omega)
          have e1 : Proofs.YtgplagdehfhffaaDoor.qGo s (s.size + 1) (i + 1) [] = (x, e, true) := hqe
          rw [e1] at hle
          have hle3 := hle.2.2 rfl
          simp only at hle hle3
          have hfs : Proofs.YtgplagdehfhffaaDoor.qGo s (t.size + 1) (i + 1) [] = (x, e, true) := by rw [← e1]; exact qGo_fuel _ _ _ _ (by omega) (by omega)
          have hqt : quoteE t (i + 1) = (x, e, true) := by
            unfold quoteE
            rw [h.qGo _ _ _ (by omega) (by rw [hfs]), hfs]
          exact TRes.ofQuote hl' (by rw [hat]; exact hq) hqt (ih _ (by omega) e rfl (by omega) ts' p h2)
      have hpl : plainB s[i] := by
        refine ⟨fun h => hb (.inl h), fun h => hb (.inr (.inl h)), fun h => hb (.inr (.inr (.inl h))), fun h => hb (.inr (.inr (.inr h))), hc, hq⟩
      have hplt : plainB t[i] := by rw [hat]; exact hpl
      rcases hw : Proofs.YtgplagdehfhffaaDoor.wordL s i with ⟨kd, e⟩
      have hwt : Proofs.YtgplagdehfhffaaDoor.wordL t i = (kd, e) := by rw [h.wordL hl, hw]
      by_cases hk : kd = 0
      · subst hk
        have hmt : markL (t.data.toList.drop i) = markL (s.data.toList.drop i) := by
          obtain ⟨b, hbb⟩ := h.drop hi
          rw [hbb]
          exact markL_app10 (by intro hh; have := congrArg List.length hh; rw [List.length_drop, ← Lib.size_eq] at this; simp at this; omega)
        rcases hm : markL (s.data.toList.drop i) with ⟨mk, mn⟩
        by_cases hmk : mk = 0
        · have := hT.none hl hpl (by rw [hw]) (by rw [hm]; exact hmk); simp at this
        · obtain ⟨r', h1, h2⟩ := hT.mark hl hpl (by rw [hw]) hm hmk
          obtain ⟨ts', rfl, rfl⟩ := tcons_inv h1
          have hml := markL_le (s.data.toList.drop i)
          rw [hm, List.length_drop, ← Lib.size_eq] at hml
          simp only at hml
          have := hml.2.2 hmk
          exact TRes.ofMark hl' hplt (by rw [hwt]) (by rw [hmt, hm]) hmk (ih _ (by omega) (i + mn) rfl (by omega) ts' p h2)
      · obtain ⟨r', h1, h2⟩ := hT.word hl hpl hw hk
        obtain ⟨ts', rfl, rfl⟩ := tcons_inv h1
        have hp := wordL_pos hi (by rw [hw]; exact hk)
        rw [hw] at hp
        simp only at hp
        rw [← h.extract hi hp.2.1]
        exact TRes.ofWord hl' hplt hwt hk (ih _ (by omega) e rfl hp.2.1 ts' p h2)
    · obtain rfl : i = s.size := by omega
      have := hT.out (by omega)
      simp only [Prod.mk.injEq] at this
      obtain ⟨rfl, _⟩ := this
      have h32 : t[s.size] = 10 := by
        have := h.blank
        rwa [show t.get! s.size = t[s.size] by simpa using get_at t s.size hlt] at this
      exact TRes.ofBlank hlt (.inr (.inr (.inl h32))) (by simpa using hr)
end
end Go.Proofs.YtgplagdehfhffaaDoor
