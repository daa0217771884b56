/-
  The plain law of reading: what is read is small.
-/
import Derived.Test.YteecbbnpgmceiaaGreatDoorParLR
namespace Go.Proofs.YteecbbnpgmceiaaGreatDoor
open Go Go.RowKit Go.Mine
set_option linter.unusedVariables false

theorem bind_inv {ε α β : Type} {x : Except ε α} {f : α → Except ε β} {b : β} (h : x.bind f = .ok b) : ∃ a, x = .ok a ∧ f a = .ok b := by
  cases x with
  | error e => cases h
  | ok a => exact ⟨a, rfl, h⟩
def TmS (t : Tm) : Prop := t.text.size ≤ 4096
def AmS (a : Am) : Prop := a.pred.size ≤ 4096 ∧ a.terms.length ≤ 64 ∧ ∀ t ∈ a.terms, TmS t
def LmS (l : Lm) : Prop := AmS l.atom ∧ TmS l.left ∧ TmS l.right
def RmS (r : Rm) : Prop := AmS r.head ∧ r.body.length ≤ 64 ∧ ∀ l ∈ r.body, LmS l
section
variable {S : Toks} {k : Nat} {agg head : Bool}
theorem tmS_empty (k : Int) : TmS ⟨k, emptyB⟩ := by show emptyB.size ≤ 4096; decide
theorem wordP_small {ks : List Nat} {r : ByteArray × Nat} (h : wordP S k ks = .ok r) : r.1.size ≤ 4096 := by
  obtain ⟨_, _, h1, rfl⟩ := wordP_ok h
  exact h1
theorem termP_small' {r : Tm × Nat} (h : termP S k = .ok r) : TmS r.1 := by
  unfold termP at h
  obtain ⟨g, _, h⟩ := bind_inv h
  split at h
  · obtain ⟨q, hw, h⟩ := bind_inv h
    cases h
    have := wordP_small hw
    unfold varL
    split
    · exact tmS_empty 2
    · exact this
  · obtain ⟨q, hw, h⟩ := bind_inv h
    cases h
    exact wordP_small hw
theorem partP_small {r : Tm × Nat × Bool} (h : partP S k agg = .ok r) : TmS r.1 := by
  unfold partP at h
  obtain ⟨g, _, h⟩ := bind_inv h
  obtain ⟨q, ht, h⟩ := bind_inv h
  have hq := termP_small' ht
  split at h
  · cases h; exact hq
  · obtain ⟨o, _, h⟩ := bind_inv h
    split at h
    · cases h; exact hq
    · split at h
      · obtain ⟨z, _, h⟩ := bind_inv h
        cases h; exact tmS_empty 4
      · obtain ⟨g, _, h⟩ := bind_inv h
        split at h
        · cases h
        · obtain ⟨y, hw, h⟩ := bind_inv h
          obtain ⟨z, _, h⟩ := bind_inv h
          cases h
          exact wordP_small hw
theorem oneP_small {r : Tm × Nat × Bool} (h : oneP head S k agg = .ok r) : TmS r.1 := by
  unfold oneP at h
  split at h
  · exact partP_small h
  · obtain ⟨q, ht, h⟩ := bind_inv h
    cases h
    exact termP_small' ht
theorem termsGo_small : ∀ {f k : Nat} {agg : Bool} {acc : List Tm} {r : List Tm × Nat × Bool}, termsGo head S f k agg acc = .ok r → acc.length ≤ 64 → (∀ t ∈ acc, TmS t) → r.1.length ≤ 64 ∧ ∀ t ∈ r.1, TmS t
  | 0, _, _, _, _, h, _, _ => by cases h
  | f + 1, k, agg, acc, r, h, hl, hs => by
    rw [termsGo] at h
    obtain ⟨u, _, h⟩ := bind_inv h
    split at h
    · cases h
    · obtain ⟨q, ho, h⟩ := bind_inv h
      obtain ⟨c, _, h⟩ := bind_inv h
      have hq := oneP_small ho
      have hs2 : ∀ t ∈ acc ++ [q.1], TmS t := fun t ht => by
        rcases List.mem_append.1 ht with ht | ht
        · exact hs t ht
        · simp at ht; subst ht; exact hq
      have hl2 : (acc ++ [q.1]).length ≤ 64 := by simp; omega
      split at h
      · exact termsGo_small h hl2 hs2
      · cases h; exact ⟨hl2, hs2⟩
theorem termsP_small {r : List Tm × Nat × Bool} (h : termsP head S k agg = .ok r) : r.1.length ≤ 64 ∧ ∀ t ∈ r.1, TmS t := by
  unfold termsP at h
  obtain ⟨o, _, h⟩ := bind_inv h
  split at h
  · cases h; exact ⟨by simp, by simp⟩
  · obtain ⟨q, hg, h⟩ := bind_inv h
    obtain ⟨z, _, h⟩ := bind_inv h
    cases h
    have hz := termsGo_small hg (by simp) (by simp)
    exact hz
theorem atomP_small {r : Am × Nat × Bool} (h : atomP head S k agg = .ok r) : AmS r.1 := by
  unfold atomP at h
  obtain ⟨q, hw, h⟩ := bind_inv h
  obtain ⟨z, ht, h⟩ := bind_inv h
  cases h
  exact ⟨wordP_small hw, termsP_small ht⟩
theorem amS_empty : AmS ⟨emptyB, []⟩ := ⟨by decide, by simp, by simp⟩
theorem cmpP_small {t : Tm} (ht : TmS t) {r : Lm × Nat} (h : cmpP S k t = .ok r) : LmS r.1 := by
  unfold cmpP at h
  obtain ⟨u, _, h⟩ := bind_inv h
  obtain ⟨q, hq, h⟩ := bind_inv h
  cases h
  exact ⟨amS_empty, ht, termP_small' hq⟩
theorem litP_small {r : Lm × Nat} (h : litP S k agg = .ok r) : LmS r.1 := by
  unfold litP at h
  obtain ⟨n, _, h⟩ := bind_inv h
  split at h
  · obtain ⟨q, ha, h⟩ := bind_inv h
    cases h
    exact ⟨atomP_small ha, tmS_empty 0, tmS_empty 0⟩
  · obtain ⟨g, _, h⟩ := bind_inv h
    obtain ⟨q, ht, h⟩ := bind_inv h
    have hq := termP_small' ht
    split at h
    · obtain ⟨o, _, h⟩ := bind_inv h
      split at h
      · exact cmpP_small hq h
      · obtain ⟨z, hz, h⟩ := bind_inv h
        cases h
        exact ⟨⟨hq, termsP_small hz⟩, tmS_empty 0, tmS_empty 0⟩
    · exact cmpP_small hq h
theorem bodyGo_small : ∀ {f k : Nat} {acc : List Lm} {r : List Lm × Nat}, bodyGo S agg f k acc = .ok r → acc.length ≤ 64 → (∀ t ∈ acc, LmS t) → r.1.length ≤ 64 ∧ ∀ t ∈ r.1, LmS t
  | 0, _, _, _, h, _, _ => by cases h
  | f + 1, k, acc, r, h, hl, hs => by
    rw [bodyGo] at h
    obtain ⟨u, _, h⟩ := bind_inv h
    split at h
    · cases h
    · obtain ⟨q, ho, h⟩ := bind_inv h
      obtain ⟨c, _, h⟩ := bind_inv h
      have hq := litP_small ho
      have hs2 : ∀ t ∈ acc ++ [q.1], LmS t := fun t ht => by
        rcases List.mem_append.1 ht with ht | ht
        · exact hs t ht
        · simp at ht; subst ht; exact hq
      have hl2 : (acc ++ [q.1]).length ≤ 64 := by simp; omega
      split at h
      · exact bodyGo_small h hl2 hs2
      · cases h; exact ⟨hl2, hs2⟩
theorem bodyP_small {r : List Lm × Nat} (h : bodyP S k agg = .ok r) : r.1.length ≤ 64 ∧ ∀ t ∈ r.1, LmS t := by
  unfold bodyP at h
  obtain ⟨o, _, h⟩ := bind_inv h
  split at h
  · exact bodyGo_small h (by simp) (by simp)
  · cases h; exact ⟨by simp, by simp⟩
theorem ruleP_small {r : Rm × Nat × Bool} (h : ruleP S k = .ok r) : RmS r.1 := by
  unfold ruleP at h
  obtain ⟨q, ha, h⟩ := bind_inv h
  obtain ⟨z, hb, h⟩ := bind_inv h
  obtain ⟨y, _, h⟩ := bind_inv h
  cases h
  exact ⟨atomP_small ha, bodyP_small hb⟩
theorem progGo_small : ∀ {f k : Nat} {acc : List Rm} {r : List Rm × Nat}, progGo S f k acc = .ok r → acc.length ≤ 1024 → (∀ t ∈ acc, RmS t) → r.1.length ≤ 1024 ∧ ∀ t ∈ r.1, RmS t
  | 0, _, _, _, h, _, _ => by cases h
  | f + 1, k, acc, r, h, hl, hs => by
    rw [progGo] at h
    obtain ⟨z, _, h⟩ := bind_inv h
    split at h
    · cases h; exact ⟨hl, hs⟩
    · obtain ⟨u, _, h⟩ := bind_inv h
      split at h
      · cases h
      · obtain ⟨q, ho, h⟩ := bind_inv h
        have hq := ruleP_small ho
        have hs2 : ∀ t ∈ acc ++ [q.1], RmS t := fun t ht => by
          rcases List.mem_append.1 ht with ht | ht
          · exact hs t ht
          · simp at ht; subst ht; exact hq
        exact progGo_small h (by simp; omega) hs2
end
theorem wholeP_inv {α : Type} {S : Toks} {r : PR (α × Nat)} {x : α} (h : wholeP S r = .ok x) : ∃ k, r = .ok (x, k) := by
  unfold wholeP at h
  obtain ⟨a, ha, h⟩ := bind_inv h
  obtain ⟨_, _, h⟩ := bind_inv h
  cases h
  exact ⟨a.2, ha⟩
theorem readL_inv {α : Type} {s : ByteArray} {one : Toks → PR (α × Nat)} {x : α} (h : readL s one = .ok x) : s.size ≤ 65536 ∧ ∃ k, one (toksOf s) = .ok (x, k) := by
  unfold readL at h
  split at h
  · cases h
  · exact ⟨by omega, wholeP_inv h⟩
theorem prog_small {s : ByteArray} {rs : List Rm} (h : readL s progP = .ok rs) : rs.length ≤ 1024 ∧ ∀ r ∈ rs, RmS r := by
  obtain ⟨_, k, h⟩ := readL_inv h
  exact progGo_small h (by simp) (by simp)
theorem rule_small {s : ByteArray} {r : Rm} (h : readL s ruleOne = .ok r) : RmS r := by
  obtain ⟨_, k, h⟩ := readL_inv h
  unfold ruleOne at h
  obtain ⟨q, hq, h⟩ := bind_inv h
  cases h
  exact ruleP_small hq
theorem atom_small {s : ByteArray} {r : Am} (h : readL s atomOne = .ok r) : AmS r := by
  obtain ⟨_, k, h⟩ := readL_inv h
  unfold atomOne at h
  obtain ⟨q, hq, h⟩ := bind_inv h
  cases h
  exact atomP_small hq
end Go.Proofs.YteecbbnpgmceiaaGreatDoor
