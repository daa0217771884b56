/-
  A text cut off where a token begins: the tokens ahead are the same.
-/
import Derived.Test.YtgplagdehfhffaaDoorLineL
import Derived.Test.YtgplagdehfhffaaDoorShiftL
namespace Go.Proofs.YtgplagdehfhffaaDoor
open Go Go.RowKit Go.Mine
set_option linter.unusedVariables false

section
variable {s : ByteArray} {e : Nat}
theorem cut_at {i : Nat} (he : e ≤ s.size) (hi : i < e) (h' : i < (s.extract 0 e).size) : (s.extract 0 e)[i] = s[i] := by
  have h1 := cut_get (u := s) hi
  rw [show (s.extract 0 e).get! i = (s.extract 0 e)[i] by simpa using get_at _ i h', show s.get! i = s[i] by simpa using get_at s i (by omega)] at h1
  exact h1
theorem cut_drop (i : Nat) : (s.extract 0 e).data.toList.drop i = (s.data.toList.drop i).take (e - i) := by
  rw [ext_data, List.drop_zero, Nat.sub_zero, List.drop_take]
theorem cut_ext {i j : Nat} (hj : j ≤ e) : (s.extract 0 e).extract i j = s.extract i j := by
  apply ByteArray.ext
  apply Array.ext'
  rw [ext_data, cut_drop, ext_data, List.take_take, Nat.min_eq_left (by omega)]
theorem escL_cut {l : List UInt8} {m : Nat} (h : (escL l).2 ≠ 0) (hm : (escL l).2 ≤ m) : escL (l.take m) = escL l := by
  obtain ⟨k, rfl⟩ : ∃ k, m = k + 1 := ⟨m - 1, by omega⟩
  rcases l with _ | ⟨c, r⟩
  · exact absurd rfl h
  · rw [List.take_succ_cons]
    simp only [escL] at *
    by_cases h1 : c = 34
    · rw [if_pos h1, if_pos h1]
    rw [if_neg h1, if_neg h1]
    rw [if_neg h1] at h hm
    by_cases h2 : c = 92
    · rw [if_pos h2, if_pos h2]
    rw [if_neg h2, if_neg h2]
    rw [if_neg h2] at h hm
    by_cases h3 : c = 110
    · rw [if_pos h3, if_pos h3]
    rw [if_neg h3, if_neg h3]
    rw [if_neg h3] at h hm
    by_cases h4 : c = 116
    · rw [if_pos h4, if_pos h4]
    rw [if_neg h4, if_neg h4]
    rw [if_neg h4] at h hm
    by_cases h5 : c ≠ 120
    · rw [if_pos h5] at h; exact absurd rfl h
    rw [if_neg h5, if_neg h5]
    rw [if_neg h5] at h hm
    rcases r with _ | ⟨a, _ | ⟨b, r⟩⟩
    · exact absurd rfl h
    · exact absurd rfl h
    · have h3 : 2 ≤ k := by
        rcases ha : sx a with _ | x
        · simp [ha] at h
        · rcases hb : sx b with _ | y
          · simp [ha, hb] at h
          · simp [ha, hb] at hm; omega
      obtain ⟨j, rfl⟩ : ∃ j, k = j + 2 := ⟨k - 2, by omega⟩
      rfl
theorem qGo_cut (he : e ≤ s.size) : ∀ (f i : Nat) (acc : List UInt8), i ≤ e → (qGo s f i acc).2.2 = true → (qGo s f i acc).2.1 ≤ e → qGo (s.extract 0 e) f i acc = qGo s f i acc
  | 0, i, acc, _, hk, _ => by simp [qGo] at hk
  | f + 1, i, acc, hi, hk, hb => by
    have hlt := (qGo_le (s := s) (f + 1) i acc (by omega)).2.2 hk
    have hie : i < e := by omega
    have his : i < s.size := by omega
    have hic : i < (s.extract 0 e).size := by rw [cut_size he]; exact hie
    rw [qGo] at hk hb
    rw [qGo, qGo]
    rw [dif_pos his] at hk hb
    rw [dif_pos his, dif_pos hic, cut_at he hie hic]
    by_cases h34 : s[i] = 34
    · rw [if_pos h34, if_pos h34]
    rw [if_neg h34, if_neg h34]
    rw [if_neg h34] at hk hb
    by_cases h92 : s[i] = 92
    · rw [if_pos h92, if_pos h92]
      rw [if_pos h92] at hk hb
      have hle := escL_le (s.data.toList.drop (i + 1))
      rw [List.length_drop, ← Lib.size_eq] at hle
      by_cases h0 : (escL (s.data.toList.drop (i + 1))).2 = 0
      · rw [if_pos h0] at hk; exact absurd hk (by simp)
      · rw [if_neg h0] at hk hb
        have h2 := (qGo_le (s := s) f (i + 1 + (escL (s.data.toList.drop (i + 1))).2) (acc ++ [(escL (s.data.toList.drop (i + 1))).1]) (by omega)).1
        have e2 : escL ((s.extract 0 e).data.toList.drop (i + 1)) = escL (s.data.toList.drop (i + 1)) := by
          rw [cut_drop]; exact escL_cut h0 (by omega)
        rw [e2, if_neg h0, if_neg h0]
        exact qGo_cut he f _ _ (by omega) hk hb
    rw [if_neg h92, if_neg h92]
    rw [if_neg h92] at hk hb
    by_cases hp : 32 ≤ s[i].toNat ∧ s[i].toNat ≤ 126
    · rw [if_pos hp, if_pos hp]
      rw [if_pos hp] at hk hb
      exact qGo_cut he f _ _ hie hk hb
    rw [if_neg hp, if_neg hp]
    rw [if_neg hp] at hk hb
    by_cases hd : (Utf8.decode s i).1 < 128 ∨ ((Utf8.decode s i).1 = 65533 ∧ (Utf8.decode s i).2 = 1)
    · rw [if_pos hd] at hk; exact absurd hk (by simp)
    · rw [if_neg hd] at hk hb
      have hw := decode_width s i his
      have h2 := (qGo_le (s := s) f (i + (Utf8.decode s i).2) (acc ++ (s.data.toList.drop i).take (Utf8.decode s i).2) (by omega)).1
      rw [decode_cut he hie (by omega), if_neg hd, if_neg hd, cut_drop, List.take_take, Nat.min_eq_left (by omega)]
      exact qGo_cut he f _ _ (by omega) hk hb
theorem endL_part (s : ByteArray) : ∀ (f i : Nat), s.size ≤ i + f → partL s (endL s f i) = 0
  | 0, i, h => by
    rw [endL]; unfold partL; rw [if_neg (by omega)]
  | f + 1, i, h => by
    rw [endL]
    split
    · assumption
    · exact endL_part s f _ (by omega)
theorem endL_cut2 (he : e ≤ s.size) {n : Nat} (hn : n ≤ e) (hz : partL (s.extract 0 e) n = 0) : ∀ (f j : Nat), j ≤ n → endL s f j = n → endL (s.extract 0 e) f j = n
  | 0, j, _, h => h
  | f + 1, j, hj, h => by
    rw [endL] at h
    by_cases hp : partL s j = 0
    · rw [if_pos hp] at h
      subst h
      exact endL_stop hz
    · rw [if_neg hp] at h
      have hge := endL_ge s f (j + partL s j)
      have hlt : j < n := by omega
      have hpu : partL s j = (Utf8.decode s j).2 ∧ j < s.size ∧ isPart (Utf8.decode s j).1 = true := by
        unfold partL at hp ⊢
        split at hp
        · rename_i hh; rw [if_pos hh]; exact ⟨rfl, hh.1, hh.2⟩
        · exact absurd rfl hp
      have hd := decode_cut he (show j < e by omega) (by rw [← hpu.1]; omega)
      have hpv : partL (s.extract 0 e) j = partL s j := by
        rw [hpu.1]
        unfold partL
        rw [hd, cut_size he, if_pos ⟨by omega, hpu.2.2⟩]
      rw [endL, hpv, if_neg hp]
      exact endL_cut2 he hn hz f _ (by omega) h
theorem kind_part {i : Nat} (hi : i < s.size) (h : partL s i = 0) : kindL s i = 0 := by
  unfold kindL
  rw [if_pos hi]
  rw [kindR_part]
  unfold partL at h
  split at h
  · have := (decode_width s i hi).1; omega
  · rename_i hh
    cases hp : isPart (Utf8.decode s i).1
    · rfl
    · exact absurd ⟨hi, hp⟩ hh
theorem markL_low {c : UInt8} {r : List UInt8} (h : (markL (c :: r)).1 ≠ 0) : c.toNat < 128 := by
  unfold markL at h
  split at h
  all_goals first
    | (rename_i hc; cases hc; decide)
    | exact absurd rfl h
theorem markL_cut {l : List UInt8} {m : Nat} (h : (markL l).1 ≠ 0) (hm : (markL l).2 ≤ m) : markL (l.take m) = markL l := by
  have h0 := (markL_le l).2.2 h
  obtain ⟨k, rfl⟩ : ∃ k, m = k + 1 := ⟨m - 1, by omega⟩
  rcases l with _ | ⟨a, _ | ⟨b, r⟩⟩
  · exact absurd rfl h
  · rw [List.take_succ_cons, List.take_nil]
  · cases k with
    | zero =>
      rw [List.take_succ_cons, List.take_zero]
      unfold markL at hm ⊢
      split at hm
      all_goals first
        | (simp only at hm; omega)
        | (split <;> simp_all; done)
    | succ k => rw [List.take_succ_cons, List.take_succ_cons, markL_two2, markL_two2]
theorem head_drop {i : Nat} (hi : i < s.size) : s.data.toList.drop i = s[i] :: s.data.toList.drop (i + 1) := List.drop_eq_getElem_cons (by simpa using hi)
/-- behind a word stands what is no part of a word: a byte below 128, if a token follows -/
theorem scan_ascii {i : Nat} {r : List Tok × Nat × Nat} (hT : TRes s i r) (hr : r.1 ≠ []) (hi : i < s.size) (hp : partL s i = 0) : s[i].toNat < 128 := by
  by_cases h : s[i].toNat < 128
  · exact h
  have hpl : plainB s[i] := by
    refine ⟨?_, ?_, ?_, ?_, ?_, ?_⟩ <;> (intro hh; rw [hh] at h; exact absurd h (by decide))
  have hw : (wordL s i).1 = 0 := by unfold wordL; rw [if_pos (kind_part hi hp)]
  by_cases hm : (markL (s.data.toList.drop i)).1 = 0
  · exact absurd (by rw [hT.none hi hpl hw hm]) hr
  · rw [head_drop hi] at hm
    exact markL_low hm
theorem wordL_cut (he : e ≤ s.size) {i k n : Nat} (hi : i < e) (hw : wordL s i = (k, n)) (hk : k ≠ 0) (hn : n ≤ e) (ha : ∀ h : n < s.size, n < e → s[n].toNat < 128) : wordL (s.extract 0 e) i = (k, n) := by
  obtain ⟨hkd, his⟩ := wordL_kind hw hk
  have hpos := wordL_pos (Nat.le_of_lt his) (by rw [hw]; exact hk)
  rw [hw] at hpos
  simp only at hpos
  have hwe : kindL s i = k ∧ endL s s.size i = n := by
    unfold wordL at hw
    rw [if_neg hkd] at hw
    simpa using hw
  have hpt : isPart (Utf8.decode s i).1 = true := by
    cases hh : isPart (Utf8.decode s i).1
    · have := (kindR_part _).2 hh
      unfold kindL at hkd
      rw [if_pos his] at hkd
      exact absurd this hkd
    · rfl
  have hpi : partL s i = (Utf8.decode s i).2 := by unfold partL; rw [if_pos ⟨his, hpt⟩]
  have hwid := decode_width s i his
  have hd : Utf8.decode (s.extract 0 e) i = Utf8.decode s i := by
    refine decode_cut he hi ?_
    have h2 := hwe.2
    cases hz : s.size with
    | zero => omega
    | succ m =>
      rw [hz, endL, if_neg (by omega)] at h2
      have := endL_ge s m (i + partL s i)
      omega
  have hkv : kindL (s.extract 0 e) i = k := by
    rw [← hwe.1]
    unfold kindL
    rw [if_pos his, if_pos (by rw [cut_size he]; exact hi), hd]
  have hz : partL (s.extract 0 e) n = 0 := by
    by_cases hne : n < e
    · have hns : n < s.size := by omega
      have h1 := ha hns hne
      have h2 : partL s n = 0 := by rw [← hwe.2]; exact endL_part s _ _ (by omega)
      have hnc : n < (s.extract 0 e).size := by rw [cut_size he]; exact hne
      unfold partL at h2 ⊢
      rw [decode_ascii s n hns h1] at h2
      rw [decode_ascii _ n hnc (by rw [cut_at he hne hnc]; exact h1), cut_at he hne hnc]
      split at h2
      · simp at h2
      · rename_i hx
        rw [if_neg (fun hh => hx ⟨hns, hh.2⟩)]
    · unfold partL
      rw [if_neg (by rw [cut_size he]; omega)]
  unfold wordL
  rw [hkv, if_neg hk]
  congr 1
  have := endL_cut2 he hn hz s.size i (by omega) hwe.2
  exact End.unique (by rw [cut_size he]; omega) ⟨_, by omega, rfl⟩ ⟨s.size, by rw [cut_size he]; omega, this.symm⟩
theorem takeWhile_cut {p : UInt8 → Bool} : ∀ (l : List UInt8) (m : Nat), (l.takeWhile p).length ≤ m → (l.take m).takeWhile p = l.takeWhile p
  | [], m, _ => by rw [List.take_nil]
  | c :: l, 0, h => by
    rw [List.takeWhile_cons] at h ⊢
    split at h
    · simp at h
    · rename_i hc; rw [if_neg hc]; rfl
  | c :: l, m + 1, h => by
    rw [List.take_succ_cons, List.takeWhile_cons, List.takeWhile_cons]
    rw [List.takeWhile_cons] at h
    split
    · rename_i hc
      rw [if_pos hc, List.length_cons] at h
      rw [takeWhile_cut l m (by omega)]
    · rfl
theorem rises_mem {n i : Nat} {ts : List Tok} {t : Tok} (h : Rises n i ts) (ht : t ∈ ts) : i ≤ t.at_ ∧ t.at_ < n := by
  induction ts generalizing i with
  | nil => cases ht
  | cons x ts ih =>
    rcases List.mem_cons.1 ht with rfl | ht
    · exact ⟨h.1, h.2.1⟩
    · have := ih h.2.2.2.2 ht
      have := h.1
      omega
theorem TRes.rises {i : Nat} {r : List Tok × Nat × Nat} (h : TRes s i r) (hi : i ≤ s.size) : Rises s.size i r.1 := by
  obtain ⟨f, hf, rfl⟩ := h
  exact (scanGo_rises f i hi).1
/-- **the law** -/
theorem scan_cut (x : Tok) (ts2 : List Tok) (p c : Nat) (he : x.at_ ≤ s.size) : ∀ (n i : Nat), s.size - i = n → i ≤ x.at_ → ∀ ts1 : List Tok, (∀ t ∈ ts1, t.at_ < x.at_) → TRes s i (ts1 ++ x :: ts2, p, c) → ∃ p', TRes (s.extract 0 x.at_) i (ts1, p', 0) := by
  intro n
  induction n using Nat.strongRecOn with
  | _ n ih =>
    intro i hn hi ts1 hlt hT
    have hcs := cut_size he
    have hris := hT.rises (by omega)
    by_cases hie : i = x.at_
    · have h1 : ts1 = [] := by
        cases ts1 with
        | nil => rfl
        | cons t ts =>
          have h1 := hlt t (List.mem_cons_self ..)
          have h2 := (rises_mem hris (t := t) (by simp)).1
          omega
      subst h1
      exact ⟨0, TRes.ofEnd (by omega)⟩
    have hl : i < s.size := by omega
    have hix : i < x.at_ := by omega
    have hl' : i < (s.extract 0 x.at_).size := by omega
    have hat := cut_at he hix hl'
    by_cases hb : s[i] = 32 ∨ s[i] = 9 ∨ s[i] = 10 ∨ s[i] = 13
    · obtain ⟨p', h⟩ := ih _ (by omega) (i + 1) rfl hix ts1 hlt (hT.blank hl hb)
      exact ⟨p', TRes.ofBlank hl' (by rw [hat]; exact hb) h⟩
    by_cases hc : s[i] = 37
    · have hp := cmtE_pos hl hc
      have hT2 := hT.cmt hl hc
      have hle : Proofs.YtgplagdehfhffaaDoor.cmtE s i ≤ x.at_ := (rises_mem (hT2.rises (cmtE_le (by omega))) (t := x) (by simp)).1
      obtain ⟨p', h⟩ := ih _ (by omega) _ rfl hle ts1 hlt hT2
      have hce : Proofs.YtgplagdehfhffaaDoor.cmtE (s.extract 0 x.at_) i = Proofs.YtgplagdehfhffaaDoor.cmtE s i := by
        unfold Proofs.YtgplagdehfhffaaDoor.cmtE at hle ⊢
        rw [cut_drop, takeWhile_cut _ _ (by omega)]
      exact ⟨p', TRes.ofCmt hl' (by rw [hat]; exact hc) (by rw [hce]; exact h)⟩
    have hfirst : ∀ (y : Tok) (r' : List Tok × Nat × Nat), (ts1 ++ x :: ts2, p, c) = tcons y r' → y.at_ = i → ∃ ts1', ts1 = y :: ts1' ∧ r' = (ts1' ++ x :: ts2, p, c) := by
      intro y r' hh hy
      unfold tcons at hh
      cases ts1 with
      | nil =>
        simp only [List.nil_append, Prod.mk.injEq, List.cons.injEq] at hh
        rw [← hh.1.1] at hy
        omega
      | cons t ts =>
        simp only [List.cons_append, Prod.mk.injEq, List.cons.injEq] at hh
        exact ⟨ts, by rw [hh.1.1], by rw [hh.1.2, hh.2]⟩
    by_cases hq : s[i] = 34
    · rcases hqe : quoteE s (i + 1) with ⟨t, e2, ok⟩
      cases ok with
      | false => have := hT.quote0 hl hq hqe; simp at this
      | true =>
        obtain ⟨r', h1, h2⟩ := hT.quote1 hl hq hqe
        obtain ⟨ts1', rfl, rfl⟩ := hfirst _ _ h1 rfl
        have e1 : qGo s (s.size + 1) (i + 1) [] = (t, e2, true) := hqe
        have hle := qGo_le (s := s) (s.size + 1) (i + 1) [] (by omega)
        rw [e1] at hle
        have hle3 := hle.2.2 rfl
        simp only at hle hle3
        have hex : e2 ≤ x.at_ := (rises_mem (h2.rises hle.2.1) (t := x) (by simp)).1
        obtain ⟨p', h⟩ := ih _ (by omega) e2 rfl hex ts1' (fun t ht => hlt t (List.mem_cons_of_mem _ ht)) h2
        have hqc : quoteE (s.extract 0 x.at_) (i + 1) = (t, e2, true) := by
          unfold quoteE
          rw [← e1, ← qGo_cut he _ _ _ (by omega) (by rw [e1]) (by rw [e1]; exact hex)]
          exact qGo_fuel _ _ _ _ (by omega) (by omega)
        exact ⟨p', TRes.ofQuote hl' (by rw [hat]; exact hq) hqc h⟩
    have hpl : plainB s[i] := ⟨fun h => hb (.inl h), fun h => hb (.inr (.inl h)), fun h => hb (.inr (.inr (.inl h))), fun h => hb (.inr (.inr (.inr h))), hc, hq⟩
    have hplt : plainB (s.extract 0 x.at_)[i] := by rw [hat]; exact hpl
    rcases hw : Proofs.YtgplagdehfhffaaDoor.wordL s i with ⟨kd, e2⟩
    by_cases hk : kd = 0
    · subst hk
      rcases hm : markL (s.data.toList.drop i) with ⟨mk, mn⟩
      by_cases hmk : mk = 0
      · have := hT.none hl hpl (by rw [hw]) (by rw [hm]; exact hmk); simp at this
      · obtain ⟨r', h1, h2⟩ := hT.mark hl hpl (by rw [hw]) hm hmk
        obtain ⟨ts1', rfl, rfl⟩ := hfirst _ _ h1 rfl
        have hml := markL_le (s.data.toList.drop i)
        rw [hm, List.length_drop, ← Lib.size_eq] at hml
        simp only at hml
        have hmp := hml.2.2 hmk
        have hex : i + mn ≤ x.at_ := (rises_mem (h2.rises (by omega)) (t := x) (by simp)).1
        obtain ⟨p', h⟩ := ih _ (by omega) (i + mn) rfl hex ts1' (fun t ht => hlt t (List.mem_cons_of_mem _ ht)) h2
        have hmc : markL ((s.extract 0 x.at_).data.toList.drop i) = (mk, mn) := by
          rw [cut_drop, markL_cut (by rw [hm]; exact hmk) (by rw [hm]; show mn ≤ _; omega), hm]
        have hlow : s[i].toNat < 128 := markL_low (r := s.data.toList.drop (i + 1)) (by rw [← head_drop hl, hm]; exact hmk)
        have hwc : (Proofs.YtgplagdehfhffaaDoor.wordL (s.extract 0 x.at_) i).1 = 0 := by
          have hk0 : kindL s i = 0 := by
            unfold Proofs.YtgplagdehfhffaaDoor.wordL at hw
            split at hw
            · assumption
            · rename_i hh; simp at hw; exact absurd hw.1 hh
          have : kindL (s.extract 0 x.at_) i = 0 := by
            unfold kindL at hk0 ⊢
            rw [if_pos hl, decode_ascii s i hl hlow] at hk0
            rw [if_pos hl', decode_ascii _ i hl' (by rw [hat]; exact hlow), hat]
            exact hk0
          unfold Proofs.YtgplagdehfhffaaDoor.wordL
          rw [if_pos this]
        exact ⟨p', TRes.ofMark hl' hplt hwc hmc hmk h⟩
    · obtain ⟨r', h1, h2⟩ := hT.word hl hpl hw hk
      obtain ⟨ts1', rfl, rfl⟩ := hfirst _ _ h1 rfl
      have hp := wordL_pos (Nat.le_of_lt hl) (by rw [hw]; exact hk)
      rw [hw] at hp
      simp only at hp
      have hex : e2 ≤ x.at_ := (rises_mem (h2.rises hp.2.1) (t := x) (by simp)).1
      obtain ⟨p', h⟩ := ih _ (by omega) e2 rfl hex ts1' (fun t ht => hlt t (List.mem_cons_of_mem _ ht)) h2
      have hpz : partL s e2 = 0 := by
        obtain ⟨hkd, _⟩ := wordL_kind hw hk
        unfold Proofs.YtgplagdehfhffaaDoor.wordL at hw
        rw [if_neg hkd] at hw
        simp only [Prod.mk.injEq] at hw
        rw [← hw.2]
        exact endL_part s _ _ (by omega)
      have hwc := wordL_cut he hix hw hk hex (fun hh _ => scan_ascii h2 (by simp) hh hpz)
      rw [show s.extract i e2 = (s.extract 0 x.at_).extract i e2 from (cut_ext hex).symm]
      exact ⟨p', TRes.ofWord hl' hplt hwc hk h⟩
end
end Go.Proofs.YtgplagdehfhffaaDoor
