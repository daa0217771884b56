/-
  The plain law of reading: long texts, the limits from both sides.
-/
import Derived.Test.YtgplagdehfhffaaDoorAtomsL
namespace Go.Proofs.YtgplagdehfhffaaDoor
open Go Go.RowKit Go.Mine
set_option linter.unusedVariables false

section
variable {s : ByteArray}
theorem kindL_at {i : Nat} (hi : i < s.size) (hc : s[i].toNat < 128) : kindL s i = kindR s[i].toNat := by
  unfold kindL
  rw [if_pos hi, decode_ascii s i hi hc]
theorem partL_at {i : Nat} (hi : i < s.size) (hc : s[i].toNat < 128) : partL s i = if isPart s[i].toNat = true then 1 else 0 := by
  unfold partL
  rw [decode_ascii s i hi hc]
  simp [hi]
theorem small_kind {n : Nat} (h : 97 ≤ n ∧ n ≤ 122) : kindR n = 1 ∧ isPart n = true := by
  have hl : letterL n = 1 := by unfold letterL; rw [if_pos (.inl h)]
  unfold kindR isPart
  rw [hl]
  exact ⟨rfl, rfl⟩
/-- a run of letters is a word -/
theorem word_run {i e k : Nat} (hie : i < e) (he : e ≤ s.size) (hl : ∀ (j : Nat) (h : j < s.size), i ≤ j → j < e → s[j].toNat < 128 ∧ isPart s[j].toNat = true) (hk1 : ∀ h : i < s.size, kindR s[i].toNat = k) (hk0 : k ≠ 0)
    (hs : ∀ h : e < s.size, s[e].toNat < 128 ∧ isPart s[e].toNat = false) : wordL s i = (k, e) := by
  have hp : ∀ j, i ≤ j → j < e → partL s j = 1 := fun j h1 h2 => by
    have hj : j < s.size := by omega
    have := hl j hj h1 h2
    rw [partL_at hj this.1, if_pos this.2]
  have hp0 : partL s e = 0 := by
    by_cases h : e < s.size
    · obtain ⟨h1, h2⟩ := hs h
      rw [partL_at h h1, h2]; rfl
    · unfold partL
      rw [if_neg (by rintro ⟨h', _⟩; exact h h')]
  have key : ∀ (n j f : Nat), i ≤ j → j + n = e → n ≤ f → endL s f j = e := by
    intro n
    induction n with
    | zero =>
      intro j f _ h2 _
      have : j = e := by omega
      subst this
      exact endL_stop hp0
    | succ n ih =>
      intro j f h1 h2 h3
      obtain ⟨f', rfl⟩ : ∃ f', f = f' + 1 := ⟨f - 1, by omega⟩
      rw [endL, hp j h1 (by omega), if_neg (by decide)]
      exact ih (j + 1) f' (by omega) (by omega) (by omega)
  have hi : i < s.size := by omega
  have hk : kindL s i = k := by
    have := hl i hi (Nat.le_refl _) hie
    rw [kindL_at hi this.1, hk1 hi]
  unfold wordL
  rw [hk, if_neg hk0, key (e - i) i s.size (Nat.le_refl _) (by omega) (by omega)]
theorem ext_of_drop {i n : Nat} {l r : List UInt8} (h : s.data.toList.drop i = l ++ r) (hn : l.length = n) : s.extract i (i + n) = ⟨l.toArray⟩ := by
  apply ByteArray.ext
  apply Array.ext'
  rw [ext_data, h, Nat.add_sub_cancel_left, List.take_left' hn]
/-- a mark of one byte -/
theorem one_mark {i : Nat} {c : UInt8} {r : List UInt8} {k : Nat} {R : List Tok × Nat × Nat} (h : s.data.toList.drop i = c :: r) (hc : plainB c) (hc2 : c.toNat < 128) (hk0 : kindR c.toNat = 0) (hm : markL (c :: r) = (k, 1)) (hk : k ≠ 0) (hR : TRes s (i + 1) R) : TRes s i (tcons ⟨k, ⟨#[]⟩, i⟩ R) := by
  obtain ⟨hi, hs, _⟩ := drop_cons h
  have hw : (wordL s i).1 = 0 := by
    unfold wordL
    rw [kindL_at hi (by rw [hs]; exact hc2), hs, hk0]; rfl
  exact TRes.ofMark hi (by rw [hs]; exact hc) hw (by rw [h]; exact hm) hk hR
theorem part_plain {c : UInt8} (h : isPart c.toNat = true) : plainB c := by
  unfold plainB
  refine ⟨?_, ?_, ?_, ?_, ?_, ?_⟩ <;> (intro e; rw [e] at h; exact absurd h (by decide))
/-- a word -/
theorem one_word {i n k : Nat} {l r : List UInt8} {R : List Tok × Nat × Nat} (h : s.data.toList.drop i = l ++ r) (hn : l.length = n) (hl : ∀ c ∈ l, c.toNat < 128 ∧ isPart c.toNat = true) (hk : ∃ c l', l = c :: l' ∧ kindR c.toNat = k) (hk0 : k ≠ 0) (hr : ∀ c r', r = c :: r' → c.toNat < 128 ∧ isPart c.toNat = false) (hR : TRes s (i + n) R) : TRes s i (tcons ⟨k, ⟨l.toArray⟩, i⟩ R) := by
  have hlen := congrArg List.length h
  rw [List.length_drop, ← Lib.size_eq, List.length_append, hn] at hlen
  have h0 : 0 < n := by
    obtain ⟨c, l', e, _⟩ := hk
    rw [e] at hn; simp at hn; omega
  have hget : ∀ (j : Nat) (hj : j < s.size), i ≤ j → (l ++ r)[j - i]? = some s[j] := fun j hj hij => by
    rw [← h, List.getElem?_drop, show i + (j - i) = j by omega, List.getElem?_eq_getElem (by rw [← Lib.size_eq]; exact hj)]; rfl
  have hw : wordL s i = (k, i + n) := by
    refine word_run (by omega) (by omega) (fun j hj h1 h2 => ?_) (fun hi => ?_) hk0 (fun he => ?_)
    · have := hget j hj h1
      rw [List.getElem?_append_left (by omega)] at this
      exact hl _ (List.mem_of_getElem? this)
    · obtain ⟨c, l', e, hc⟩ := hk
      have := hget i hi (Nat.le_refl _)
      rw [Nat.sub_self, e] at this
      simp at this
      rw [← this, hc]
    · have := hget (i + n) he (by omega)
      rw [show i + n - i = n by omega, List.getElem?_append_right (by omega), hn, Nat.sub_self] at this
      cases r with
      | nil => simp at this
      | cons c r' =>
        simp at this
        rw [← this]
        exact hr c r' rfl
  have hi : i < s.size := by omega
  have hpl : plainB s[i] := by
    have := hget i hi (Nat.le_refl _)
    rw [Nat.sub_self, List.getElem?_append_left (by omega)] at this
    exact part_plain (hl _ (List.mem_of_getElem? this)).2
  have := TRes.ofWord hi hpl hw hk0 hR
  rw [ext_of_drop h hn] at this
  exact this
end
/-- 'p.', many times -/
def dL : Nat → List UInt8 → List UInt8
  | 0, t => t
  | n + 1, t => 112 :: 46 :: dL n t
theorem dL_len (t : List UInt8) : ∀ n, (dL n t).length = 2 * n + t.length
  | 0 => by simp [dL]
  | n + 1 => by rw [dL, List.length_cons, List.length_cons, dL_len t n]; omega
def dT : Nat → Nat → List Tok
  | _, 0 => []
  | i, n + 1 => ⟨1, ⟨#[112]⟩, i⟩ :: ⟨7, ⟨#[]⟩, i + 1⟩ :: dT (i + 2) n
theorem dT_len : ∀ n i, (dT i n).length = 2 * n
  | 0, i => rfl
  | n + 1, i => by rw [dT, List.length_cons, List.length_cons, dT_len n]; omega
theorem dT_get : ∀ (n i k : Nat), k < n → (dT i n)[2 * k]? = some ⟨1, ⟨#[112]⟩, i + 2 * k⟩ ∧ (dT i n)[2 * k + 1]? = some ⟨7, ⟨#[]⟩, i + 2 * k + 1⟩
  | 0, i, k, h => by omega
  | n + 1, i, 0, h => ⟨rfl, rfl⟩
  | n + 1, i, k + 1, h => by
    have := dT_get n (i + 2) k (by omega)
    rw [dT, show 2 * (k + 1) = 2 * k + 1 + 1 by omega]
    simp only [List.getElem?_cons_succ]
    rw [this.1, this.2, show i + 2 + 2 * k = i + (2 * k + 1 + 1) by omega]
    exact ⟨rfl, rfl⟩
theorem scan_d {s : ByteArray} {t : List UInt8} {R : List Tok × Nat × Nat} : ∀ (m i : Nat), s.data.toList.drop i = dL m t → TRes s (i + 2 * m) R → TRes s i (dT i m ++ R.1, R.2)
  | 0, i, _, hR => hR
  | m + 1, i, h, hR => by
    rw [dL] at h
    obtain ⟨hi, hs, h1⟩ := drop_cons h
    obtain ⟨hi1, hs1, h2⟩ := drop_cons h1
    have ih := scan_d m (i + 2) h2 (by rw [show i + 2 + 2 * m = i + 2 * (m + 1) by omega]; exact hR)
    have a := one_mark (k := 7) h1 ⟨by decide, by decide, by decide, by decide, by decide, by decide⟩ (by decide) (by decide) (by rfl) (by decide) ih
    exact one_word (l := [112]) (n := 1) h rfl (fun c hc => by simp at hc; subst hc; decide) ⟨112, [], rfl, by decide⟩ (by decide) (fun c r' e => by cases e; decide) a
def pM : Rm := ⟨⟨⟨#[112]⟩, []⟩, []⟩
/-- a word and a full stop -/
theorem rule_w {S : Toks} (hb : ∀ k, S.bad k = false) {k a1 a2 : Nat} {x : ByteArray} (hx : ¬ 4096 < x.size) (h1 : S.tok k = ⟨1, x, a1⟩) (h2 : S.tok (k + 1) = ⟨7, ⟨#[]⟩, a2⟩) : ruleP S k = .ok (⟨⟨x, []⟩, []⟩, k + 2, false) := by
  have hw : wordP S k [1] = .ok (x, k + 1) := by
    rw [wordP_yes (hb _) (by rw [h1]; rfl) (by rw [h1]; exact hx), h1]
  unfold ruleP atomP termsP bodyP
  rw [hw, bind_ok', isP_val (hb _), bind_ok', if_pos (by rw [h2]; rfl), bind_ok', bind_ok', isP_val (hb _), bind_ok', if_neg (by rw [h2]; show ¬ ([8] : List Nat).contains 7 = true; decide), bind_ok', markP_yes (hb _) (by rw [h2])]
  rfl
theorem rounds_p {S : Toks} (hb : ∀ k, S.bad k = false) : ∀ (m k f : Nat) (acc : List Rm), acc.length = k → k + m ≤ 1024 → (∀ j, k ≤ j → j < k + m → S.tok (2 * j) = ⟨1, ⟨#[112]⟩, 2 * j⟩ ∧ S.tok (2 * j + 1) = ⟨7, ⟨#[]⟩, 2 * j + 1⟩) →
    progGo S (f + m) (2 * k) acc = progGo S f (2 * (k + m)) (acc ++ List.replicate m pM)
  | 0, k, f, acc, _, _, _ => by simp
  | m + 1, k, f, acc, h1, h2, h3 => by
    obtain ⟨t1, t2⟩ := h3 k (Nat.le_refl _) (by omega)
    rw [show f + (m + 1) = (f + m) + 1 by omega, progGo, isP_val (hb _), bind_ok', if_neg (by rw [t1]; show ¬ ([0] : List Nat).contains 1 = true; decide), wantP_ok (hb _) (by rw [t1]; rfl), bind_ok', if_neg (by omega), rule_w hb (by decide) t1 t2, bind_ok']
    simp only
    rw [show 2 * k + 2 = 2 * (k + 1) by omega]
    have ih := rounds_p hb m (k + 1) f (acc ++ [pM]) (by simp [h1]) (by omega) (fun j hj hj2 => h3 j (by omega) (by omega))
    rw [show k + 1 + m = k + (m + 1) by omega, List.append_assoc] at ih
    exact ih
theorem d_reads {t : List UInt8} {ts : List Tok} {n : Nat} (hn : n = 1024) (ht : t.length ≤ 10) (hR : TRes ⟨(dL n t).toArray⟩ (2 * n) (ts, 0, 0)) :
    readL ⟨(dL n t).toArray⟩ progP = wholeP ⟨dT 0 n ++ ts, 0, 2 * n + t.length⟩ (progGo ⟨dT 0 n ++ ts, 0, 2 * n + t.length⟩ 1 (2 * n) (List.replicate n pM)) := by
  have hsz : (⟨(dL n t).toArray⟩ : ByteArray).size = 2 * n + t.length := by
    show (dL n t).toArray.size = _
    rw [List.size_toArray, dL_len]
  have hsc := scan_d (s := ⟨(dL n t).toArray⟩) n 0 rfl (by rw [Nat.zero_add]; exact hR)
  have hs : scanL ⟨(dL n t).toArray⟩ = (dT 0 n ++ ts, 0, 0) := (scanL_res _).uniq hsc
  have hS : toksOf ⟨(dL n t).toArray⟩ = ⟨dT 0 n ++ ts, 0, 2 * n + t.length⟩ := by
    unfold toksOf
    rw [hs]
    simp only [if_pos, hsz]
  unfold readL
  rw [if_neg (by omega), hS]
  congr 1
  have hb : ∀ k, Toks.bad ⟨dT 0 n ++ ts, 0, 2 * n + t.length⟩ k = false := fun k => by unfold Toks.bad; simp
  have hk : ∀ j, j < n → Toks.tok ⟨dT 0 n ++ ts, 0, 2 * n + t.length⟩ (2 * j) = ⟨1, ⟨#[112]⟩, 2 * j⟩ ∧ Toks.tok ⟨dT 0 n ++ ts, 0, 2 * n + t.length⟩ (2 * j + 1) = ⟨7, ⟨#[]⟩, 2 * j + 1⟩ := fun j hj => by
    obtain ⟨h1, h2⟩ := dT_get n 0 j hj
    have hl := dT_len n 0
    unfold Toks.tok
    simp only [List.getD_eq_getElem?_getD]
    rw [List.getElem?_append_left (by omega), List.getElem?_append_left (by omega), h1, h2, Nat.zero_add]
    exact ⟨rfl, rfl⟩
  have := rounds_p hb n 0 1 [] rfl (by omega) (fun j _ hj => hk j (by omega))
  unfold progP
  rw [Nat.mul_zero, Nat.zero_add, List.nil_append, hn] at this
  rw [hn]
  exact this
theorem dL_drop (t : List UInt8) : ∀ n, (dL n t).drop (2 * n) = t
  | 0 => rfl
  | n + 1 => by rw [dL, show 2 * (n + 1) = 2 * n + 1 + 1 by omega, List.drop_succ_cons, List.drop_succ_cons, dL_drop t n]
theorem d_end {n : Nat} {t : List UInt8} {i : Nat} (h : 2 * n + t.length ≤ i) : TRes ⟨(dL n t).toArray⟩ i ([], 0, 0) := by
  refine TRes.ofEnd ?_
  show ¬ i < (dL n t).toArray.size
  rw [List.size_toArray, dL_len]
  omega
theorem nb (ts : List Tok) (m : Nat) : ∀ k, Toks.bad ⟨ts, 0, m⟩ k = false := fun k => by unfold Toks.bad; simp
section
variable {n : Nat} (hn : n = 1024)
include hn
theorem known_d : readL ⟨(dL n []).toArray⟩ progP = .ok (List.replicate n pM) := by
  rw [d_reads hn (by simp) (d_end (by simp))]
  have hk : Toks.tok ⟨dT 0 n ++ [], 0, 2 * n + 0⟩ (2 * n) = ⟨0, emptyB, 2 * n + 0⟩ := tok_out (by simp [dT_len])
  have hp : progGo ⟨dT 0 n ++ [], 0, 2 * n + 0⟩ 1 (2 * n) (List.replicate n pM) = .ok (List.replicate n pM, 2 * n) := by
    rw [progGo, isP_val (nb _ _ _), bind_ok', hk, if_pos (by rfl)]
  unfold wholeP
  show (progGo ⟨dT 0 n ++ [], 0, 2 * n + 0⟩ 1 (2 * n) (List.replicate n pM)).bind _ = _
  rw [hp, bind_ok', wantP_ok (nb _ _ _) (by simp only; show ([0] : List Nat).contains (Toks.tok ⟨dT 0 n ++ [], 0, 2 * n + 0⟩ (2 * n)).kind = true; rw [hk]; rfl)]
  rfl
theorem known_dx {c : UInt8} {k : Nat} (hc : c.toNat < 128 ∧ isPart c.toNat = true) (hk : kindR c.toNat = k) (hk0 : k ≠ 0) : readL ⟨(dL n [c]).toArray⟩ progP = if k = 1 then .error (81, 2 * n) else .error (80, 2 * n) := by
  have hR := one_word (s := ⟨(dL n [c]).toArray⟩) (i := 2 * n) (l := [c]) (r := []) (n := 1) (k := k) (dL_drop [c] n) rfl (fun x hx => by simp at hx; subst hx; exact hc) ⟨c, [], rfl, hk⟩ hk0 (fun x r' e => by cases e) (d_end (by simp))
  rw [d_reads hn (by simp) hR]
  have hk2 : Toks.tok ⟨dT 0 n ++ [⟨k, ⟨#[c]⟩, 2 * n⟩], 0, 2 * n + 1⟩ (2 * n) = ⟨k, ⟨#[c]⟩, 2 * n⟩ := by
    rw [tok_in (by simp [dT_len])]
    simp only
    rw [List.getElem_append_right (by rw [dT_len]; exact Nat.le_refl _)]
    simp [dT_len]
  have hp : progGo ⟨dT 0 n ++ [⟨k, ⟨#[c]⟩, 2 * n⟩], 0, 2 * n + 1⟩ 1 (2 * n) (List.replicate n pM) = if k = 1 then .error (81, 2 * n) else .error (80, 2 * n) := by
    rw [progGo, isP_val (nb _ _ _), bind_ok', hk2, if_neg (by simpa using hk0)]
    by_cases h1 : k = 1
    · rw [wantP_ok (nb _ _ _) (by rw [hk2, h1]; rfl), bind_ok', if_pos (by rw [List.length_replicate]; exact hn), if_pos h1]
    · rw [wantP_no (nb _ _ _) (by rw [hk2]; simpa using h1), if_neg h1, hk2]; rfl
  unfold wholeP
  show (progGo ⟨dT 0 n ++ [⟨k, ⟨#[c]⟩, 2 * n⟩], 0, 2 * n + 1⟩ 1 (2 * n) (List.replicate n pM)).bind _ = _
  rw [hp]
  split <;> rfl
end
theorem a_part {m : Nat} : ∀ c ∈ List.replicate m (97 : UInt8), c.toNat < 128 ∧ isPart c.toNat = true := fun c hc => by
  rw [List.eq_of_mem_replicate hc]; decide
theorem a_first {m : Nat} (hm : 0 < m) : ∃ c l', List.replicate m (97 : UInt8) = c :: l' ∧ kindR c.toNat = 1 := by
  obtain ⟨m', rfl⟩ : ∃ m', m = m' + 1 := ⟨m - 1, by omega⟩
  exact ⟨97, List.replicate m' 97, List.replicate_succ, by decide⟩
/-- a long word and a full stop -/
theorem known_e {m : Nat} (hm : 0 < m) (hm2 : m ≤ 5000) : readL ⟨(List.replicate m (97 : UInt8) ++ [46]).toArray⟩ progP = if 4096 < m then .error (84, 0) else .ok [⟨⟨⟨(List.replicate m (97 : UInt8)).toArray⟩, []⟩, []⟩] := by
  have hsz : (⟨(List.replicate m (97 : UInt8) ++ [46]).toArray⟩ : ByteArray).size = m + 1 := by
    show (List.replicate m (97 : UInt8) ++ [46]).toArray.size = _
    simp
  have hR1 := one_mark (s := ⟨(List.replicate m (97 : UInt8) ++ [46]).toArray⟩) (i := m) (c := 46) (r := []) (k := 7) (by simp) ⟨by decide, by decide, by decide, by decide, by decide, by decide⟩ (by decide) (by decide) (by rfl) (by decide) (TRes.ofEnd (by rw [hsz]; omega))
  have hR := one_word (s := ⟨(List.replicate m (97 : UInt8) ++ [46]).toArray⟩) (i := 0) (l := List.replicate m (97 : UInt8)) (r := [46]) (n := m) (k := 1) rfl (by simp) a_part (a_first hm) (by decide) (fun c r' e => by cases e; decide) (by rw [Nat.zero_add]; exact hR1)
  have hs := (scanL_res _).uniq hR
  have hS : toksOf ⟨(List.replicate m (97 : UInt8) ++ [46]).toArray⟩ = ⟨[⟨1, ⟨(List.replicate m (97 : UInt8)).toArray⟩, 0⟩, ⟨7, ⟨#[]⟩, m⟩], 0, m + 1⟩ := by
    unfold toksOf
    rw [hs]
    show Toks.mk _ 0 (if (0 : Nat) = 0 then _ else _) = _
    rw [if_pos rfl, hsz]; rfl
  have hx : (⟨(List.replicate m (97 : UInt8)).toArray⟩ : ByteArray).size = m := by
    show (List.replicate m (97 : UInt8)).toArray.size = _
    simp
  unfold readL
  rw [if_neg (by omega), hS]
  generalize (⟨(List.replicate m (97 : UInt8)).toArray⟩ : ByteArray) = x at *
  have hb : ∀ k, Toks.bad ⟨[⟨1, x, 0⟩, ⟨7, ⟨#[]⟩, m⟩], 0, m + 1⟩ k = false := fun k => by unfold Toks.bad; simp
  have h0 : Toks.tok ⟨[⟨1, x, 0⟩, ⟨7, ⟨#[]⟩, m⟩], 0, m + 1⟩ 0 = ⟨1, x, 0⟩ := rfl
  have h1 : Toks.tok ⟨[⟨1, x, 0⟩, ⟨7, ⟨#[]⟩, m⟩], 0, m + 1⟩ 1 = ⟨7, ⟨#[]⟩, m⟩ := rfl
  have h2 : Toks.tok ⟨[⟨1, x, 0⟩, ⟨7, ⟨#[]⟩, m⟩], 0, m + 1⟩ 2 = ⟨0, emptyB, m + 1⟩ := rfl
  generalize (⟨[⟨1, x, 0⟩, ⟨7, ⟨#[]⟩, m⟩], 0, m + 1⟩ : Toks) = S at *
  unfold progP wholeP
  rw [progGo, isP_val (hb _), bind_ok', if_neg (by rw [h0]; show ¬ ([0] : List Nat).contains 1 = true; decide), wantP_ok (hb _) (by rw [h0]; rfl), bind_ok', if_neg (by decide)]
  by_cases hl : 4096 < m
  · rw [if_pos hl]
    have : ruleP S 0 = .error (84, 0) := by
      unfold ruleP atomP
      rw [wordP_long (hb _) (by rw [h0]; rfl) (by rw [h0]; show 4096 < x.size; omega), h0]; rfl
    rw [this]; rfl
  · rw [if_neg hl, rule_w hb (by omega) h0 h1, bind_ok']
    simp only [List.nil_append]
    rw [progGo, isP_val (hb _), bind_ok', if_pos (by rw [h2]; rfl), bind_ok', wantP_ok (hb _) (by simp only; rw [h2]; rfl)]; rfl
theorem flat_q1 : ∀ {l : List UInt8}, (∀ c ∈ l, q1 c = [c]) → l.flatMap q1 = l
  | [], _ => rfl
  | c :: l, h => by rw [List.flatMap_cons, h c (List.mem_cons_self ..), flat_q1 (fun x hx => h x (List.mem_cons_of_mem _ hx))]; rfl
/-- a long text in quotes -/
theorem known_q {m : Nat} {l : List UInt8} (hl : l.length = m) (hm : 4096 < m) (hm2 : m ≤ 5000) (hq : ∀ c ∈ l, q1 c = [c]) : readL ⟨([112, 40, 34] ++ l ++ [34, 41, 46]).toArray⟩ progP = .error (84, 2) := by
  obtain ⟨s, hs⟩ : ∃ s : ByteArray, s = ⟨([112, 40, 34] ++ l ++ [34, 41, 46]).toArray⟩ := ⟨_, rfl⟩
  have hd : s.data.toList = 112 :: 40 :: 34 :: (l ++ 34 :: [41, 46]) := by rw [hs]; simp
  rw [← hs]
  have hsz : s.size = m + 6 := by
    rw [Lib.size_eq, hd]; simp [hl]
  have d0 : s.data.toList.drop 0 = [112] ++ 40 :: 34 :: (l ++ 34 :: [41, 46]) := hd
  have d1 : s.data.toList.drop 1 = 40 :: 34 :: (l ++ 34 :: [41, 46]) := by rw [hd]; rfl
  have d2 : s.data.toList.drop 2 = 34 :: (l ++ 34 :: [41, 46]) := by rw [hd]; rfl
  have d3 : s.data.toList.drop 3 = l.flatMap q1 ++ 34 :: [41, 46] := by rw [hd, flat_q1 hq]; rfl
  have hqe := quoteE_back d3
  obtain ⟨h2i, h2c, _⟩ := drop_cons d2
  obtain ⟨R, hR⟩ : ∃ R, TRes s (3 + (l.flatMap q1).length + 1) R := ⟨_, _, Nat.lt_succ_self _, rfl⟩
  have r2 := TRes.ofQuote h2i h2c hqe hR
  have r1 := one_mark (k := 4) d1 ⟨by decide, by decide, by decide, by decide, by decide, by decide⟩ (by decide) (by decide) (by rfl) (by decide) r2
  have r0 := one_word (k := 1) (n := 1) (l := [112]) d0 rfl (fun c hc => by simp at hc; subst hc; decide) ⟨112, [], rfl, by decide⟩ (by decide) (fun c r' e => by cases e; decide) r1
  have hsc := (scanL_res s).uniq r0
  have hts : (toksOf s).ts = ⟨1, ⟨#[112]⟩, 0⟩ :: ⟨4, ⟨#[]⟩, 1⟩ :: ⟨3, ⟨l.toArray⟩, 2⟩ :: R.1 := by
    show (scanL s).1 = _
    rw [hsc]; rfl
  have h0 : (toksOf s).tok 0 = ⟨1, ⟨#[112]⟩, 0⟩ := by unfold Toks.tok; rw [hts]; rfl
  have h1 : (toksOf s).tok 1 = ⟨4, ⟨#[]⟩, 1⟩ := by unfold Toks.tok; rw [hts]; rfl
  have h2 : (toksOf s).tok 2 = ⟨3, ⟨l.toArray⟩, 2⟩ := by unfold Toks.tok; rw [hts]; rfl
  have hb : ∀ k, k < 3 → (toksOf s).bad k = false := fun k hk => not_bad (by rw [hts]; simp only [List.length_cons]; omega)
  have hx : (⟨l.toArray⟩ : ByteArray).size = m := by show l.toArray.size = _; simp [hl]
  unfold readL
  rw [if_neg (by omega)]
  generalize toksOf s = S at *
  have hr : ruleP S 0 = .error (84, 2) := by
    unfold ruleP atomP termsP
    rw [wordP_yes (hb _ (by decide)) (by rw [h0]; rfl) (by rw [h0]; show ¬ 4096 < (⟨#[112]⟩ : ByteArray).size; decide), bind_ok']
    simp only [Nat.zero_add]
    rw [isP_val (hb _ (by decide)), bind_ok', if_neg (by rw [h1]; decide), termsGo, wantP_ok (hb _ (by decide)) (by rw [h2]; rfl), bind_ok', if_neg (by decide)]
    have ho : oneP true S (1 + 1) false = .error (84, 2) := by
      unfold oneP partP
      rw [if_pos rfl, isP_val (hb _ (by decide)), bind_ok']
      have ht : termP S (1 + 1) = .error (84, 2) := by
        unfold termP
        rw [isP_val (hb _ (by decide)), bind_ok', if_neg (by rw [h2]; show ¬ ([2] : List Nat).contains 3 = true; decide), wordP_long (hb _ (by decide)) (by rw [h2]; rfl) (by rw [h2]; show 4096 < (⟨l.toArray⟩ : ByteArray).size; omega), h2]; rfl
      rw [ht]; rfl
    rw [ho]; rfl
  unfold progP wholeP
  rw [progGo, isP_val (hb _ (by decide)), bind_ok', if_neg (by rw [h0]; decide), wantP_ok (hb _ (by decide)) (by rw [h0]; rfl), bind_ok', if_neg (by decide), hr]; rfl
end Go.Proofs.YtgplagdehfhffaaDoor
