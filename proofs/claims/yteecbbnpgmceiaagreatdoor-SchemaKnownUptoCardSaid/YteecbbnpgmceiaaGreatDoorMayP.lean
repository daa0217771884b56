/-
  The plain law of reading: what is read may be.
-/
import Derived.Test.YteecbbnpgmceiaaGreatDoorSmallP
import Derived.Test.YteecbbnpgmceiaaGreatDoorBackL
namespace Go.Proofs.YteecbbnpgmceiaaGreatDoor
open Go Go.RowKit Go.Mine
set_option linter.unusedVariables false

/-- the words of a row are words -/
def Toks.Gd (S : Toks) : Prop := ∀ t ∈ S.ts, (t.kind = 1 ∨ t.kind = 2) → Word t.text = t.kind
theorem toksOf_gd (s : ByteArray) : (toksOf s).Gd := by
  intro t ht hk
  have h := (scanGo_good (s := s) (s.size + 1) 0 (Nat.zero_le _) t ht).1
  rcases h with h | ⟨_, h⟩ | ⟨h, _⟩
  · omega
  · unfold Word
    rw [h, if_neg (by simp)]
  · omega
section
variable {S : Toks} {k : Nat} {agg head : Bool}
theorem Toks.Gd.word (h : S.Gd) {k : Nat} {c : Nat} (hc : c = 1 ∨ c = 2) (e : (S.tok k).kind = c) : Word (S.tok k).text = c := by
  have hk := in_kind (S := S) (k := k) (by omega)
  have := h _ (List.getElem_mem hk)
  rw [tok_in hk] at e ⊢
  rw [this (by omega), e]
theorem isP_inv {ks : List Nat} {b : Bool} (h : isP S k ks = .ok b) : S.bad k = false ∧ b = ks.contains (S.tok k).kind := by
  obtain ⟨h1, h2⟩ := isP_ok h
  exact ⟨h1, h2.symm⟩
theorem wantP_inv {ks : List Nat} {u : Unit} (h : wantP S k ks = .ok u) : S.bad k = false ∧ ks.contains (S.tok k).kind = true := by
  cases hb : S.bad k with
  | true => rw [wantP_bad hb] at h; cases h
  | false =>
    cases hc : ks.contains (S.tok k).kind with
    | false => rw [wantP_no hb hc] at h; cases h
    | true => exact ⟨rfl, rfl⟩
/-- a variable or a constant that may be -/
def TmV (t : Tm) : Prop := mayTm t = 0 ∧ 1 ≤ t.kind ∧ t.kind ≤ 3
def TmG (t : Tm) : Prop := mayTm t = 0 ∧ 4 ≤ t.kind ∧ t.kind ≤ 7
theorem tmV2 : TmV ⟨2, emptyB⟩ := by refine ⟨rfl, ?_, ?_⟩ <;> (dsimp only; decide)
theorem tmV1 {s : ByteArray} (h1 : s ≠ blankB) (h2 : Word s = 2) (h3 : s.size ≤ 4096) : TmV ⟨1, s⟩ := by
  refine ⟨?_, by dsimp only; decide, by dsimp only; decide⟩
  unfold mayTm
  dsimp only
  rw [if_neg (by decide), if_neg (by decide), if_pos (by decide), if_neg (by simp [h1, h2]), if_neg (by omega)]
theorem tmV3 {s : ByteArray} (h3 : s.size ≤ 4096) : TmV ⟨3, s⟩ := by
  refine ⟨?_, by dsimp only; decide, by dsimp only; decide⟩
  unfold mayTm
  dsimp only
  rw [if_pos rfl, if_neg (by omega)]
theorem tmG4 : TmG ⟨4, emptyB⟩ := by refine ⟨rfl, ?_, ?_⟩ <;> (dsimp only; decide)
theorem termP_inv (hg : S.Gd) {r : Tm × Nat} (h : termP S k = .ok r) : TmV r.1 ∧ r.2 = k + 1 ∧ S.bad k = false ∧ (((S.tok k).kind = 2 ∧ r.1 = varL (S.tok k).text) ∨ (((S.tok k).kind = 1 ∨ (S.tok k).kind = 3) ∧ r.1 = ⟨3, (S.tok k).text⟩)) := by
  unfold termP at h
  obtain ⟨g, hi, h⟩ := bind_inv h
  split at h
  · obtain ⟨q, hw, h⟩ := bind_inv h
    cases h
    obtain ⟨hb, hc, hs, rfl⟩ := wordP_ok hw
    have hk : (S.tok k).kind = 2 := by simpa using hc
    have hwd := hg.word (.inr rfl) hk
    refine ⟨?_, rfl, hb, .inl ⟨hk, rfl⟩⟩
    unfold varL
    by_cases e : (S.tok k).text = blankB
    · rw [if_pos e]; exact tmV2
    · rw [if_neg e]
      exact tmV1 e hwd hs
  · obtain ⟨q, hw, h⟩ := bind_inv h
    cases h
    obtain ⟨hb, hc, hs, rfl⟩ := wordP_ok hw
    exact ⟨tmV3 hs, rfl, hb, .inr ⟨by simpa using hc, rfl⟩⟩
theorem aggL_rng (s : ByteArray) : aggL s = 0 ∨ (4 ≤ aggL s ∧ aggL s ≤ 7) := by
  unfold aggL
  repeat' split
  all_goals simp
theorem partP_inv (hg : S.Gd) {r : Tm × Nat × Bool} (h : partP S k agg = .ok r) : (TmV r.1 ∧ r.2.2 = agg) ∨ (TmG r.1 ∧ agg = false ∧ r.2.2 = true) := by
  unfold partP at h
  obtain ⟨g, _, h⟩ := bind_inv h
  obtain ⟨q, ht, h⟩ := bind_inv h
  have hq := (termP_inv hg ht).1
  split at h
  · cases h; exact .inl ⟨hq, rfl⟩
  · rename_i hn
    have hag : agg = false := by cases agg <;> simp_all
    obtain ⟨o, _, h⟩ := bind_inv h
    split at h
    · cases h; exact .inl ⟨hq, rfl⟩
    · split at h
      · obtain ⟨z, _, h⟩ := bind_inv h
        cases h; exact .inr ⟨tmG4, hag, rfl⟩
      · rename_i h4
        obtain ⟨g, hi, h⟩ := bind_inv h
        split at h
        · cases h
        · rename_i hnb
          obtain ⟨y, hw, h⟩ := bind_inv h
          obtain ⟨z, _, h⟩ := bind_inv h
          cases h
          obtain ⟨hb, hc, hs, rfl⟩ := wordP_ok hw
          have hk : (S.tok (q.2 + 1)).kind = 2 := by simpa using hc
          have hwd := hg.word (.inr rfl) hk
          obtain ⟨_, hgv⟩ := isP_inv hi
          have hgt : g = true := by rw [hgv, hk]; decide
          have hne : (S.tok (q.2 + 1)).text ≠ blankB := fun e => hnb ⟨hgt, e⟩
          have hr := aggL_rng q.1.text
          have hz : aggL q.1.text ≠ 0 := fun e => hn (.inr (.inl e))
          refine .inr ⟨⟨?_, by simp only; omega, by simp only; omega⟩, hag, rfl⟩
          unfold mayTm
          rw [if_neg (by simp only; omega), if_neg (by simp only; omega), if_pos (by simp only; omega), if_neg (by simp [hne, hwd]), if_neg (by simp only; omega)]
theorem oneP_inv (hg : S.Gd) {r : Tm × Nat × Bool} (h : oneP head S k agg = .ok r) : (TmV r.1 ∧ r.2.2 = agg) ∨ (head = true ∧ TmG r.1 ∧ agg = false ∧ r.2.2 = true) := by
  unfold oneP at h
  split at h
  · rename_i hh
    rcases partP_inv hg h with h | ⟨h1, h2⟩
    · exact .inl h
    · exact .inr ⟨hh, h1, h2⟩
  · obtain ⟨q, ht, h⟩ := bind_inv h
    cases h
    exact .inl ⟨(termP_inv hg ht).1, rfl⟩
theorem mayTs_snocV {t : Tm} (ht : TmV t) : ∀ {head : Bool} {acc : List Tm}, mayTs head acc = 0 → mayTs head (acc ++ [t]) = 0
  | head, [], _ => by
    obtain ⟨h1, h2, h3⟩ := ht
    show mayTs head [t] = 0
    rw [mayTs, if_neg (by omega), if_neg (by omega)]; rfl
  | head, x :: acc, h => by
    rw [List.cons_append, mayTs]
    rw [mayTs] at h
    split at h
    · rename_i hx
      rw [if_pos hx]
      split at h
      · rename_i hh
        rw [if_pos hh]
        split at h
        · rename_i hm; exact absurd h hm
        · rename_i hm
          rw [if_neg hm]; exact mayTs_snocV ht h
      · exact absurd h (by decide)
    · rename_i hx
      rw [if_neg hx]
      split at h
      · rename_i hm; exact absurd h hm
      · rename_i hm
        rw [if_neg hm]; exact mayTs_snocV ht h
theorem mayTs_snocG {t : Tm} (ht : TmG t) : ∀ {acc : List Tm}, mayTs false acc = 0 → mayTs true (acc ++ [t]) = 0
  | [], _ => by
    obtain ⟨h1, h2, h3⟩ := ht
    show mayTs true [t] = 0
    rw [mayTs, if_pos (by omega), if_pos rfl, if_neg (by omega)]; rfl
  | x :: acc, h => by
    rw [List.cons_append, mayTs]
    rw [mayTs] at h
    split at h
    · rw [if_neg (by decide)] at h; exact absurd h (by decide)
    · rename_i hx
      rw [if_neg hx]
      split at h
      · rename_i hm; exact absurd h hm
      · rename_i hm
        rw [if_neg hm]; exact mayTs_snocG ht h
/-- terms so far -/
def TsOk (head agg : Bool) (acc : List Tm) : Prop := (head = false → mayTs false acc = 0) ∧ (head = true → mayTs true acc = 0 ∧ (agg = false → mayTs false acc = 0))
theorem TsOk.step {acc : List Tm} {t : Tm} {ag : Bool} (h : TsOk head agg acc) (ht : (TmV t ∧ ag = agg) ∨ (head = true ∧ TmG t ∧ agg = false ∧ ag = true)) : TsOk head ag (acc ++ [t]) := by
  rcases ht with ⟨ht, rfl⟩ | ⟨hh, ht, ha, rfl⟩
  · exact ⟨fun e => mayTs_snocV ht (h.1 e), fun e => ⟨mayTs_snocV ht (h.2 e).1, fun e2 => mayTs_snocV ht ((h.2 e).2 e2)⟩⟩
  · exact ⟨fun e => (by rw [hh] at e; cases e), fun e => ⟨mayTs_snocG ht ((h.2 hh).2 ha), fun e2 => (by cases e2)⟩⟩
theorem TsOk.may {acc : List Tm} (h : TsOk head agg acc) : mayTs head acc = 0 := by
  cases head with
  | false => exact h.1 rfl
  | true => exact (h.2 rfl).1
theorem termsGo_inv (hg : S.Gd) : ∀ {f k : Nat} {agg : Bool} {acc : List Tm} {r : List Tm × Nat × Bool}, termsGo head S f k agg acc = .ok r → TsOk head agg acc → TsOk head r.2.2 r.1
  | 0, _, _, _, _, h, _ => by cases h
  | f + 1, k, agg, acc, r, h, hs => by
    rw [termsGo] at h
    obtain ⟨u, _, h⟩ := bind_inv h
    split at h
    · cases h
    · obtain ⟨q, ho, h⟩ := bind_inv h
      obtain ⟨c, _, h⟩ := bind_inv h
      have hs2 := hs.step (oneP_inv hg ho)
      split at h
      · exact termsGo_inv hg h hs2
      · cases h; exact hs2
theorem tsOk_nil (head agg : Bool) : TsOk head agg [] := ⟨fun _ => rfl, fun _ => ⟨rfl, fun _ => rfl⟩⟩
theorem termsP_inv (hg : S.Gd) {r : List Tm × Nat × Bool} (h : termsP head S k agg = .ok r) : TsOk head r.2.2 r.1 := by
  unfold termsP at h
  obtain ⟨o, _, h⟩ := bind_inv h
  split at h
  · cases h; exact tsOk_nil _ _
  · obtain ⟨q, hgo, h⟩ := bind_inv h
    obtain ⟨z, _, h⟩ := bind_inv h
    cases h
    have hz := termsGo_inv hg hgo (tsOk_nil _ _)
    exact hz
theorem mayAm_of (hg : S.Gd) {k : Nat} (h1 : (S.tok k).kind = 1) (hs : (S.tok k).text.size ≤ 4096) {ts : List Tm} (hl : ts.length ≤ 64) (ht : mayTs head ts = 0) : mayAm head ⟨(S.tok k).text, ts⟩ = 0 := by
  have hwd := hg.word (.inl rfl) h1
  unfold mayAm
  rw [if_neg (by simp [hwd]), if_neg (by simp only; omega), if_neg (by simp only; omega)]
  exact ht
theorem atomP_inv (hg : S.Gd) {r : Am × Nat × Bool} (h : atomP head S k agg = .ok r) : mayAm head r.1 = 0 := by
  unfold atomP at h
  obtain ⟨q, hw, h⟩ := bind_inv h
  obtain ⟨z, ht, h⟩ := bind_inv h
  cases h
  obtain ⟨hb, hc, hs, rfl⟩ := wordP_ok hw
  exact mayAm_of hg (by simpa using hc) hs (termsP_small ht).1 (termsP_inv hg ht).may
theorem cmpP_inv (hg : S.Gd) {t : Tm} (ht : TmV t) {r : Lm × Nat} (h : cmpP S k t = .ok r) : mayLm r.1 = 0 := by
  unfold cmpP at h
  obtain ⟨u, hu, h⟩ := bind_inv h
  obtain ⟨q, hq, h⟩ := bind_inv h
  cases h
  obtain ⟨hb, hc⟩ := wantP_inv hu
  have hk : (S.tok k).kind = 10 ∨ (S.tok k).kind = 11 ∨ (S.tok k).kind = 12 ∨ (S.tok k).kind = 13 := by simpa [opsK] using hc
  have h2 := (termP_inv hg hq).1
  have ht2 := ht.2; have h22 := h2.2
  unfold mayLm
  dsimp only
  have hn : noneL ⟨3, ⟨emptyB, []⟩, (((S.tok k).kind : Int)) - 9, t, q.1⟩ := ⟨rfl, rfl⟩
  rw [if_neg (by rintro ⟨h | h, _⟩ <;> exact absurd h (by decide)), if_neg (by
    rintro (h | h | h | h)
    · exact h rfl
    · exact h hn
    · omega
    · omega), if_neg (by omega), if_neg (by rw [ht.1]; decide), if_neg (by omega)]
  exact h2.1
theorem bare_new (k : Int) (a : Am) : bareL ⟨k, a, 0, tm0, tm0⟩ := ⟨rfl, ⟨rfl, rfl⟩, rfl, rfl⟩
theorem litP_inv (hg : S.Gd) {r : Lm × Nat} (h : litP S k agg = .ok r) : mayLm r.1 = 0 := by
  unfold litP at h
  obtain ⟨n, _, h⟩ := bind_inv h
  split at h
  · obtain ⟨q, ha, h⟩ := bind_inv h
    cases h
    unfold mayLm
    rw [if_pos ⟨.inr rfl, bare_new _ _⟩]
    exact atomP_inv hg ha
  · obtain ⟨g, hgi, h⟩ := bind_inv h
    obtain ⟨q, ht, h⟩ := bind_inv h
    have hq := termP_inv hg ht
    split at h
    · rename_i hgt
      obtain ⟨o, _, h⟩ := bind_inv h
      split at h
      · exact cmpP_inv hg hq.1 h
      · obtain ⟨z, hz, h⟩ := bind_inv h
        cases h
        have h1 : (S.tok k).kind = 1 := by
          have := (isP_inv hgi).2
          rw [hgt] at this
          simpa using this.symm
        have hqt : q.1 = ⟨3, (S.tok k).text⟩ := by
          rcases hq.2.2.2 with ⟨h2, _⟩ | ⟨_, h2⟩
          · omega
          · exact h2
        have hs : (S.tok k).text.size ≤ 4096 := by have := termP_small' ht; rw [hqt] at this; exact this
        unfold mayLm
        rw [if_pos ⟨.inl rfl, bare_new _ _⟩]
        rw [hqt]
        exact mayAm_of hg h1 hs (termsP_small hz).1 (termsP_inv hg hz).may
    · exact cmpP_inv hg hq.1 h
theorem mayLs_snoc {l : Lm} (hl : mayLm l = 0) : ∀ {acc : List Lm}, mayLs acc = 0 → mayLs (acc ++ [l]) = 0
  | [], _ => by show mayLs [l] = 0; rw [mayLs, if_neg (by simpa using hl)]; rfl
  | x :: acc, h => by
    rw [List.cons_append, mayLs]
    rw [mayLs] at h
    split at h
    · rename_i hm; exact absurd h hm
    · rename_i hm
      rw [if_neg hm]; exact mayLs_snoc hl h
theorem bodyGo_inv (hg : S.Gd) : ∀ {f k : Nat} {acc : List Lm} {r : List Lm × Nat}, bodyGo S agg f k acc = .ok r → mayLs acc = 0 → mayLs r.1 = 0
  | 0, _, _, _, h, _ => by cases h
  | f + 1, k, acc, r, h, hs => by
    rw [bodyGo] at h
    obtain ⟨u, _, h⟩ := bind_inv h
    split at h
    · cases h
    · obtain ⟨q, ho, h⟩ := bind_inv h
      obtain ⟨c, _, h⟩ := bind_inv h
      have hs2 := mayLs_snoc (litP_inv hg ho) hs
      split at h
      · exact bodyGo_inv hg h hs2
      · cases h; exact hs2
theorem bodyP_inv (hg : S.Gd) {r : List Lm × Nat} (h : bodyP S k agg = .ok r) : mayLs r.1 = 0 := by
  unfold bodyP at h
  obtain ⟨o, _, h⟩ := bind_inv h
  split at h
  · exact bodyGo_inv hg h rfl
  · cases h; rfl
theorem ruleP_inv (hg : S.Gd) {r : Rm × Nat × Bool} (h : ruleP S k = .ok r) : mayRm r.1 = 0 := by
  have hs := ruleP_small h
  unfold ruleP at h
  obtain ⟨q, ha, h⟩ := bind_inv h
  obtain ⟨z, hb, h⟩ := bind_inv h
  obtain ⟨y, _, h⟩ := bind_inv h
  cases h
  unfold mayRm
  have hl := hs.2.1
  rw [if_neg (by simp only; rw [atomP_inv hg ha]; decide), if_neg (by simp only at hl ⊢; omega)]
  exact bodyP_inv hg hb
theorem mayRs_snoc {l : Rm} (hl : mayRm l = 0) : ∀ {acc : List Rm}, mayRs acc = 0 → mayRs (acc ++ [l]) = 0
  | [], _ => by show mayRs [l] = 0; rw [mayRs, if_neg (by simpa using hl)]; rfl
  | x :: acc, h => by
    rw [List.cons_append, mayRs]
    rw [mayRs] at h
    split at h
    · rename_i hm; exact absurd h hm
    · rename_i hm
      rw [if_neg hm]; exact mayRs_snoc hl h
theorem progGo_inv (hg : S.Gd) : ∀ {f k : Nat} {acc : List Rm} {r : List Rm × Nat}, progGo S f k acc = .ok r → mayRs acc = 0 → mayRs r.1 = 0
  | 0, _, _, _, h, _ => by cases h
  | f + 1, k, acc, r, h, hs => by
    rw [progGo] at h
    obtain ⟨z, _, h⟩ := bind_inv h
    split at h
    · cases h; exact hs
    · obtain ⟨u, _, h⟩ := bind_inv h
      split at h
      · cases h
      · obtain ⟨q, ho, h⟩ := bind_inv h
        exact progGo_inv hg h (mayRs_snoc (ruleP_inv hg ho) hs)
end
/-- P8.4: what is read may be -/
theorem prog_may {s : ByteArray} {rs : List Rm} (h : readL s progP = .ok rs) : mayPm rs = 0 := by
  have hs := (prog_small h).1
  obtain ⟨_, k, h⟩ := readL_inv h
  unfold mayPm
  rw [if_neg (by omega)]
  exact progGo_inv (toksOf_gd s) h rfl
theorem rule_may {s : ByteArray} {r : Rm} (h : readL s ruleOne = .ok r) : mayRm r = 0 := by
  obtain ⟨_, k, h⟩ := readL_inv h
  unfold ruleOne at h
  obtain ⟨q, hq, h⟩ := bind_inv h
  cases h
  exact ruleP_inv (toksOf_gd s) hq
theorem atom_may {s : ByteArray} {r : Am} (h : readL s atomOne = .ok r) : mayAm false r = 0 := by
  obtain ⟨_, k, h⟩ := readL_inv h
  unfold atomOne at h
  obtain ⟨q, hq, h⟩ := bind_inv h
  cases h
  exact atomP_inv (toksOf_gd s) hq
end Go.Proofs.YteecbbnpgmceiaaGreatDoor
