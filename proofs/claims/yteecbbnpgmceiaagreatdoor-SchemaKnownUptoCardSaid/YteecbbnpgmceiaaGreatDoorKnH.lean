/-
  The plain law of reading: two rows of tokens that are alike ahead of a place are read alike ahead of it.
-/
import Derived.Test.YteecbbnpgmceiaaGreatDoorSmallP
import Derived.Test.YteecbbnpgmceiaaGreatDoorBackL
import Derived.Test.YteecbbnpgmceiaaGreatDoorPlacesL
import Derived.Test.YteecbbnpgmceiaaGreatDoorMayP
import Derived.Test.YteecbbnpgmceiaaGreatDoorPar3
namespace Go.Proofs.YteecbbnpgmceiaaGreatDoor
open Go Go.RowKit Go.Mine
set_option linter.unusedVariables false

/-- ahead of token n the rows are alike, the second's by d tokens later (z: but that a full stop may stand where the first one ends) -/
structure Sim (S S' : Toks) (d n : Nat) (z : Bool) : Prop where
  kind : ∀ k, k < n → (S'.tok (k + d)).kind = (S.tok k).kind ∨ (z = true ∧ (S.tok k).kind = 0 ∧ (S'.tok (k + d)).kind = 7)
  text : ∀ k, k < n → (S'.tok (k + d)).text = (S.tok k).text
  bad : ∀ k, k < n → S'.bad (k + d) = S.bad k
  fault : ∀ k, k < n → S.bad k = true → S'.fault = S.fault
/-- which errors there are at a token -/
def Ec (S : Toks) (j c : Nat) : Prop := (c = S.fault ∧ S.bad j = true) ∨ (S.bad j = false ∧ (c = 80 ∨ (81 ≤ c ∧ c ≤ 84 ∧ j < S.ts.length)))
theorem Ec.ne {S : Toks} {j c : Nat} (h : Ec S j c) : c ≠ 0 := by
  rcases h with ⟨h, hb⟩ | ⟨_, h | h⟩
  · unfold Toks.bad at hb
    simp at hb
    omega
  · omega
  · omega
def Rl (S S' : Toks) (d n k : Nat) {α : Type} (pos : α → Nat) (sh : α → α) (r r' : PR α) : Prop :=
  (∀ a, r = .ok a → k ≤ pos a ∧ (n ≤ pos a ∨ r' = .ok (sh a))) ∧
  ∀ e, r = .error e → ∃ j, k ≤ j ∧ e.2 = (S.tok j).at_ ∧ Ec S j e.1 ∧ (n ≤ j ∨ r' = .error (e.1, (S'.tok (j + d)).at_))
section
variable {S S' : Toks} {d n k : Nat} {z : Bool} {α β : Type} {pos : α → Nat} {sh : α → α} {pos2 : β → Nat} {sh2 : β → β} {r r' : PR α}
theorem Rl.bind {f f' : α → PR β} (h : Rl S S' d n k pos sh r r') (hf : ∀ a, r = .ok a → Rl S S' d n (pos a) pos2 sh2 (f a) (f' (sh a))) : Rl S S' d n k pos2 sh2 (r.bind f) (r'.bind f') := by
  cases hr : r with
  | error e =>
    refine ⟨fun a h => (by cases h), fun e2 h2 => ?_⟩
    cases h2
    obtain ⟨j, h1, h2, hc, h3⟩ := h.2 e hr
    refine ⟨j, h1, h2, hc, ?_⟩
    rcases h3 with h3 | h3
    · exact .inl h3
    · exact .inr (by rw [h3]; rfl)
  | ok a =>
    obtain ⟨h1, h2⟩ := h.1 a hr
    have hfa := hf a hr
    rw [bind_ok']
    constructor
    · intro b hb
      obtain ⟨h3, h4⟩ := hfa.1 b hb
      refine ⟨Nat.le_trans h1 h3, ?_⟩
      rcases h2 with h2 | h2
      · exact .inl (Nat.le_trans h2 h3)
      · rcases h4 with h4 | h4
        · exact .inl h4
        · exact .inr (by rw [h2, bind_ok']; exact h4)
    · intro e he
      obtain ⟨j, h3, h4, hc, h5⟩ := hfa.2 e he
      refine ⟨j, Nat.le_trans h1 h3, h4, hc, ?_⟩
      rcases h2 with h2 | h2
      · exact .inl (Nat.le_trans h2 h3)
      · rcases h5 with h5 | h5
        · exact .inl h5
        · exact .inr (by rw [h2, bind_ok']; exact h5)
theorem Rl.ok {a a' : α} (hk : k ≤ pos a) (ha : a' = sh a) : Rl S S' d n k pos sh (.ok a) (.ok a') := by
  subst ha
  exact ⟨fun b hb => by cases hb; exact ⟨hk, .inr rfl⟩, fun e he => by cases he⟩
theorem Rl.err {c j : Nat} (hk : k ≤ j) (hc : Ec S j c) : Rl S S' d n k pos sh (.error (c, (S.tok j).at_)) (.error (c, (S'.tok (j + d)).at_)) :=
  ⟨fun b hb => (by cases hb), fun e he => by cases he; exact ⟨j, hk, rfl, hc, .inr rfl⟩⟩
theorem Rl.mono {k' : Nat} (h : Rl S S' d n k pos sh r r') (hk : k' ≤ k) : Rl S S' d n k' pos sh r r' :=
  ⟨fun a ha => ⟨Nat.le_trans hk (h.1 a ha).1, (h.1 a ha).2⟩, fun e he => by obtain ⟨j, h1, h2, hc, h3⟩ := h.2 e he; exact ⟨j, Nat.le_trans hk h1, h2, hc, h3⟩⟩
theorem Rl.prim (hp : ∀ a, r = .ok a → k ≤ pos a) (he : ∀ e, r = .error e → e.2 = (S.tok k).at_ ∧ Ec S k e.1)
    (hs : k < n → (∀ a, r = .ok a → r' = .ok (sh a)) ∧ ∀ e, r = .error e → r' = .error (e.1, (S'.tok (k + d)).at_)) : Rl S S' d n k pos sh r r' := by
  by_cases hk : k < n
  · exact ⟨fun a ha => ⟨hp a ha, .inr ((hs hk).1 a ha)⟩, fun e h => ⟨k, Nat.le_refl _, (he e h).1, (he e h).2, .inr ((hs hk).2 e h)⟩⟩
  · exact ⟨fun a ha => ⟨hp a ha, .inl (by have := hp a ha; omega)⟩, fun e h => ⟨k, Nat.le_refl _, (he e h).1, (he e h).2, .inl (by omega)⟩⟩
theorem Sim.cont (hs : Sim S S' d n z) {k : Nat} (hk : k < n) {ks : List Nat} (hz : z = true → ks.contains 0 = false ∧ ks.contains 7 = false) : ks.contains (S'.tok (k + d)).kind = ks.contains (S.tok k).kind := by
  rcases hs.kind k hk with h | ⟨h1, h2, h3⟩
  · rw [h]
  · rw [h2, h3, (hz h1).1, (hz h1).2]
theorem Rl.late {r'' : PR α} (hn : n ≤ k) (h : Rl S S' d n k pos sh r r'') : Rl S S' d n k pos sh r r' :=
  ⟨fun a ha => ⟨(h.1 a ha).1, .inl (Nat.le_trans hn (h.1 a ha).1)⟩, fun e he => by obtain ⟨j, h1, h2, hc, _⟩ := h.2 e he; exact ⟨j, h1, h2, hc, .inl (Nat.le_trans hn h1)⟩⟩
theorem isP_rl (hs : Sim S S' d n z) (k : Nat) (ks : List Nat) (hz : z = true → ks.contains 0 = false ∧ ks.contains 7 = false) : Rl S S' d n k (fun _ => k) (fun b => b) (isP S k ks) (isP S' (k + d) ks) := by
  refine Rl.prim (fun _ _ => Nat.le_refl _) (fun e h => by obtain ⟨h1, rfl⟩ := isP_err h; exact ⟨rfl, .inl ⟨rfl, h1⟩⟩) fun hk => ?_
  have h1 := hs.cont hk hz
  have h2 := hs.bad k hk
  cases hb : S.bad k with
  | true =>
    have h3 := hs.fault k hk hb
    rw [isP_bad hb, isP_bad (by rw [h2, hb]), h3]
    exact ⟨fun a h => (by cases h), fun e h => by cases h; rfl⟩
  | false =>
    rw [isP_val hb, isP_val (by rw [h2, hb]), h1]
    exact ⟨fun a h => h, fun e h => by cases h⟩
theorem wantP_inv' {S : Toks} {k : Nat} {ks : List Nat} {u : Unit} (h : wantP S k ks = .ok u) : S.bad k = false ∧ ks.contains (S.tok k).kind = true := by
  cases hb : S.bad k with
  | true => rw [wantP_bad hb] at h; cases h
  | false =>
    cases hc : ks.contains (S.tok k).kind with
    | false => rw [wantP_no hb hc] at h; cases h
    | true => exact ⟨rfl, rfl⟩
theorem wantP_lt {S : Toks} {k : Nat} {ks : List Nat} {u : Unit} (h : wantP S k ks = .ok u) (h0 : ks.contains 0 = false) : k < S.ts.length := by
  by_cases hk : k < S.ts.length
  · exact hk
  · have := (wantP_inv' h).2
    rw [tok_out (by omega)] at this
    rw [h0] at this; cases this
theorem wantP_rl (hs : Sim S S' d n z) (k : Nat) (ks : List Nat) (hz : z = true → ks.contains 0 = false ∧ ks.contains 7 = false) : Rl S S' d n k (fun _ => k) (fun b => b) (wantP S k ks) (wantP S' (k + d) ks) := by
  unfold wantP
  refine (isP_rl hs k ks hz).bind fun b hb => ?_
  split
  · exact Rl.ok (Nat.le_refl _) rfl
  · exact Rl.err (Nat.le_refl _) (.inr ⟨(isP_ok hb).1, .inl rfl⟩)
theorem wordP_rl (hs : Sim S S' d n z) (k : Nat) (ks : List Nat) (hz : z = true → ks.contains 0 = false ∧ ks.contains 7 = false) : Rl S S' d n k (fun a => a.2) (fun a => (a.1, a.2 + d)) (wordP S k ks) (wordP S' (k + d) ks) := by
  have e0 : ∀ e, wordP S k ks = .error e → e.2 = (S.tok k).at_ ∧ Ec S k e.1 := by
    intro e h
    cases hb : S.bad k with
    | true => rw [wordP_bad hb] at h; cases h; exact ⟨rfl, .inl ⟨rfl, hb⟩⟩
    | false =>
      cases hc : ks.contains (S.tok k).kind with
      | false => rw [wordP_no hb hc] at h; cases h; exact ⟨rfl, .inr ⟨hb, .inl rfl⟩⟩
      | true =>
        by_cases hl : 4096 < (S.tok k).text.size
        · rw [wordP_long hb hc hl] at h; cases h
          refine ⟨rfl, .inr ⟨hb, .inr ⟨(by decide : 81 ≤ 84), (by decide : 84 ≤ 84), ?_⟩⟩⟩
          by_cases hk : k < S.ts.length
          · exact hk
          · rw [tok_out (by omega)] at hl; exact absurd hl (by show ¬ 4096 < emptyB.size; decide)
        · rw [wordP_yes hb hc hl] at h; cases h
  refine Rl.prim (fun a h => by obtain ⟨_, _, _, rfl⟩ := wordP_ok h; simp) e0 fun hk => ?_
  have h1 := hs.cont hk hz
  have h2 := hs.bad k hk
  have h3 := hs.text k hk
  cases hb : S.bad k with
  | true =>
    have h4 := hs.fault k hk hb
    rw [wordP_bad hb, wordP_bad (by rw [h2, hb]), h4]
    exact ⟨fun a h => (by cases h), fun e h => by cases h; rfl⟩
  | false =>
    have hb' : S'.bad (k + d) = false := by rw [h2, hb]
    cases hc : ks.contains (S.tok k).kind with
    | false =>
      rw [wordP_no hb hc, wordP_no hb' (by rw [h1]; exact hc)]
      exact ⟨fun a h => (by cases h), fun e h => by cases h; rfl⟩
    | true =>
      by_cases hl : 4096 < (S.tok k).text.size
      · rw [wordP_long hb hc hl, wordP_long hb' (by rw [h1]; exact hc) (by rw [h3]; exact hl)]
        exact ⟨fun a h => (by cases h), fun e h => by cases h; rfl⟩
      · rw [wordP_yes hb hc hl, wordP_yes hb' (by rw [h1]; exact hc) (by rw [h3]; exact hl), h3]
        exact ⟨fun a h => by cases h; rw [show k + d + 1 = k + 1 + d by omega], fun e h => by cases h⟩
theorem markP_rl (hs : Sim S S' d n z) (k c : Nat) (hz : z = true → ([c] : List Nat).contains 0 = false ∧ ([c] : List Nat).contains 7 = false) : Rl S S' d n k (fun a => a) (fun a => a + d) (markP S k c) (markP S' (k + d) c) := by
  unfold markP
  refine (wantP_rl hs k [c] hz).bind fun b _ => ?_
  exact Rl.ok (Nat.le_succ _) (by omega)
theorem termP_rl (hs : Sim S S' d n z) (k : Nat) : Rl S S' d n k (fun a => a.2) (fun a => (a.1, a.2 + d)) (termP S k) (termP S' (k + d)) := by
  unfold termP
  refine (isP_rl hs k [2] (fun _ => by decide)).bind fun g _ => ?_
  split
  · refine (wordP_rl hs k [2] (fun _ => by decide)).bind fun r _ => ?_
    exact Rl.ok (Nat.le_refl _) rfl
  · refine (wordP_rl hs k [1, 3] (fun _ => by decide)).bind fun r _ => ?_
    exact Rl.ok (Nat.le_refl _) rfl
def notBl (S : Toks) (k : Nat) : PR Unit := (isP S k [2]).bind fun g => if g = true ∧ (S.tok k).text = blankB then .error (80, (S.tok k).at_) else .ok ()
theorem notBl_eq (S : Toks) (k : Nat) (x : PR β) : ((isP S k [2]).bind fun g => if g = true ∧ (S.tok k).text = blankB then .error (80, (S.tok k).at_) else x) = (notBl S k).bind fun _ => x := by
  unfold notBl
  cases isP S k [2] with
  | error e => rfl
  | ok g =>
    simp only [bind_ok']
    split
    · rfl
    · rfl
theorem notBl_rl (hs : Sim S S' d n z) (k : Nat) : Rl S S' d n k (fun _ => k) (fun b => b) (notBl S k) (notBl S' (k + d)) := by
  refine Rl.prim (fun _ _ => Nat.le_refl _) (fun e h => ?_) fun hk => ?_
  · unfold notBl at h
    cases hi : isP S k [2] with
    | error x =>
      rw [hi] at h; cases h
      obtain ⟨h1, rfl⟩ := isP_err hi
      exact ⟨rfl, .inl ⟨rfl, h1⟩⟩
    | ok g =>
      rw [hi, bind_ok'] at h
      split at h
      · cases h; exact ⟨rfl, .inr ⟨(isP_ok hi).1, .inl rfl⟩⟩
      · cases h
  · have h := isP_rl hs k [2] (fun _ => by decide)
    unfold notBl
    rw [hs.text k hk]
    cases hi : isP S k [2] with
    | error x =>
      rw [(isP_err hi).2]
      have hb := (isP_err hi).1
      rw [isP_bad (by rw [hs.bad k hk, hb]), hs.fault k hk hb]
      exact ⟨fun a h => (by cases h), fun e h => by cases h; rfl⟩
    | ok g =>
      obtain ⟨_, h3⟩ := h.1 g hi
      rcases h3 with h3 | h3
      · exact absurd hk (Nat.not_lt.2 h3)
      · rw [h3, bind_ok', bind_ok']
        split
        · exact ⟨fun a h => (by cases h), fun e h => by cases h; rfl⟩
        · exact ⟨fun a h => h, fun e h => by cases h⟩
def pos3 (a : α × Nat × β) : Nat := a.2.1
def sh3 (d : Nat) (a : α × Nat × β) : α × Nat × β := (a.1, a.2.1 + d, a.2.2)
theorem partP_rl (hs : Sim S S' d n z) (k : Nat) (agg : Bool) : Rl S S' d n k pos3 (sh3 d) (partP S k agg) (partP S' (k + d) agg) := by
  unfold partP
  refine (isP_rl hs k [1] (fun _ => by decide)).bind fun small _ => ?_
  refine (termP_rl hs k).bind fun r _ => ?_
  dsimp only
  split
  · exact Rl.ok (Nat.le_refl _) rfl
  · refine (isP_rl hs r.2 [4] (fun _ => by decide)).bind fun o _ => ?_
    split
    · exact Rl.ok (Nat.le_refl _) rfl
    · rw [show r.2 + d + 1 = r.2 + 1 + d by omega]
      split
      · refine ((markP_rl hs (r.2 + 1) 5 (fun _ => by decide)).bind fun k2 _ => ?_).mono (Nat.le_succ _)
        exact Rl.ok (Nat.le_refl _) rfl
      · rw [notBl_eq, notBl_eq]
        refine ((notBl_rl hs (r.2 + 1)).bind fun u _ => ?_).mono (Nat.le_succ _)
        refine (wordP_rl hs (r.2 + 1) [2] (fun _ => by decide)).bind fun q _ => ?_
        refine (markP_rl hs q.2 5 (fun _ => by decide)).bind fun k3 _ => ?_
        exact Rl.ok (Nat.le_refl _) rfl
theorem oneP_rl (hs : Sim S S' d n z) (head : Bool) (k : Nat) (agg : Bool) : Rl S S' d n k pos3 (sh3 d) (oneP head S k agg) (oneP head S' (k + d) agg) := by
  unfold oneP
  split
  · exact partP_rl hs k agg
  · refine (termP_rl hs k).bind fun r _ => ?_
    exact Rl.ok (Nat.le_refl _) rfl
theorem termsGo_rl (hs : Sim S S' d n z) (head : Bool) : ∀ (f k : Nat) (agg : Bool) (acc : List Tm), acc.length ≤ 64 → 65 ≤ f + acc.length → Rl S S' d n k pos3 (sh3 d) (termsGo head S f k agg acc) (termsGo head S' f (k + d) agg acc)
  | 0, k, agg, acc, h1, h2 => by omega
  | f + 1, k, agg, acc, h1, h2 => by
    rw [termsGo, termsGo, show k + d + 1 = k + 1 + d by omega]
    refine ((wantP_rl hs (k + 1) [1, 2, 3] (fun _ => by decide)).bind fun u hu => ?_).mono (Nat.le_succ _)
    split
    · exact Rl.err (Nat.le_refl _) (.inr ⟨(wantP_inv' hu).1, .inr ⟨by decide, by decide, wantP_lt hu (by decide)⟩⟩)
    · refine (oneP_rl hs head (k + 1) agg).bind fun r _ => ?_
      refine (isP_rl hs r.2.1 [6] (fun _ => by decide)).bind fun c _ => ?_
      split
      · exact termsGo_rl hs head f r.2.1 r.2.2 (acc ++ [r.1]) (by simp; omega) (by simp; omega)
      · exact Rl.ok (Nat.le_refl _) rfl
theorem termsP_rl (hs : Sim S S' d n z) (head : Bool) (k : Nat) (agg : Bool) : Rl S S' d n k pos3 (sh3 d) (termsP head S k agg) (termsP head S' (k + d) agg) := by
  unfold termsP
  refine (isP_rl hs k [4] (fun _ => by decide)).bind fun o _ => ?_
  split
  · exact Rl.ok (Nat.le_refl _) rfl
  · refine (termsGo_rl hs head 65 k agg [] (by simp) (by simp)).bind fun r _ => ?_
    refine (markP_rl hs r.2.1 5 (fun _ => by decide)).bind fun k3 _ => ?_
    exact Rl.ok (Nat.le_refl _) rfl
theorem atomP_rl (hs : Sim S S' d n z) (head : Bool) (k : Nat) (agg : Bool) : Rl S S' d n k pos3 (sh3 d) (atomP head S k agg) (atomP head S' (k + d) agg) := by
  unfold atomP
  refine (wordP_rl hs k [1] (fun _ => by decide)).bind fun r _ => ?_
  refine (termsP_rl hs head r.2 agg).bind fun q _ => ?_
  exact Rl.ok (Nat.le_refl _) rfl
theorem cmpP_rl (hs : Sim S S' d n z) (k : Nat) (t : Tm) : Rl S S' d n k (fun a => a.2) (fun a => (a.1, a.2 + d)) (cmpP S k t) (cmpP S' (k + d) t) := by
  unfold cmpP
  rw [show k + d + 1 = k + 1 + d by omega]
  refine (wantP_rl hs k opsK (fun _ => by decide)).bind fun u hu => ?_
  have hc := (wantP_inv' hu).2
  have hx : Rl S S' d n k (fun a => a.2) (fun a => (a.1, a.2 + d)) ((termP S (k + 1)).bind fun r => .ok ((⟨3, ⟨emptyB, []⟩, (S.tok k).kind - 9, t, r.1⟩ : Lm), r.2)) ((termP S' (k + 1 + d)).bind fun r => .ok ((⟨3, ⟨emptyB, []⟩, (S.tok k).kind - 9, t, r.1⟩ : Lm), r.2)) := by
    refine ((termP_rl hs (k + 1)).bind fun r _ => ?_).mono (Nat.le_succ _)
    exact Rl.ok (Nat.le_refl _) rfl
  by_cases hk : k < n
  · have he : (S'.tok (k + d)).kind = (S.tok k).kind := by
      rcases hs.kind k hk with h | ⟨_, h, _⟩
      · exact h
      · rw [h] at hc; exact absurd hc (by decide)
    rw [he]
    exact hx
  · exact hx.late (Nat.not_lt.1 hk)
theorem litP_rl (hs : Sim S S' d n z) (k : Nat) (agg : Bool) : Rl S S' d n k (fun a => a.2) (fun a => (a.1, a.2 + d)) (litP S k agg) (litP S' (k + d) agg) := by
  unfold litP
  refine (isP_rl hs k [9] (fun _ => by decide)).bind fun m _ => ?_
  split
  · rw [show k + d + 1 = k + 1 + d by omega]
    refine ((atomP_rl hs false (k + 1) agg).bind fun r _ => ?_).mono (Nat.le_succ _)
    exact Rl.ok (Nat.le_refl _) rfl
  · refine (isP_rl hs k [1] (fun _ => by decide)).bind fun small _ => ?_
    refine (termP_rl hs k).bind fun r _ => ?_
    dsimp only
    split
    · refine (isP_rl hs r.2 opsK (fun _ => by decide)).bind fun o _ => ?_
      split
      · exact cmpP_rl hs r.2 r.1
      · refine (termsP_rl hs false r.2 agg).bind fun q _ => ?_
        exact Rl.ok (Nat.le_refl _) rfl
    · exact cmpP_rl hs r.2 r.1
theorem bodyGo_rl (hs : Sim S S' d n z) (agg : Bool) : ∀ (f k : Nat) (acc : List Lm), acc.length ≤ 64 → 65 ≤ f + acc.length → Rl S S' d n k (fun a => a.2) (fun a => (a.1, a.2 + d)) (bodyGo S agg f k acc) (bodyGo S' agg f (k + d) acc)
  | 0, k, acc, h1, h2 => by omega
  | f + 1, k, acc, h1, h2 => by
    rw [bodyGo, bodyGo, show k + d + 1 = k + 1 + d by omega]
    refine ((wantP_rl hs (k + 1) [1, 2, 3, 9] (fun _ => by decide)).bind fun u hu => ?_).mono (Nat.le_succ _)
    split
    · exact Rl.err (Nat.le_refl _) (.inr ⟨(wantP_inv' hu).1, .inr ⟨by decide, by decide, wantP_lt hu (by decide)⟩⟩)
    · refine (litP_rl hs (k + 1) agg).bind fun r _ => ?_
      refine (isP_rl hs r.2 [6] (fun _ => by decide)).bind fun c _ => ?_
      split
      · exact bodyGo_rl hs agg f r.2 (acc ++ [r.1]) (by simp; omega) (by simp; omega)
      · exact Rl.ok (Nat.le_refl _) rfl
theorem bodyP_rl (hs : Sim S S' d n z) (k : Nat) (agg : Bool) : Rl S S' d n k (fun a => a.2) (fun a => (a.1, a.2 + d)) (bodyP S k agg) (bodyP S' (k + d) agg) := by
  unfold bodyP
  refine (isP_rl hs k [8] (fun _ => by decide)).bind fun o _ => ?_
  split
  · exact bodyGo_rl hs agg 65 k [] (by simp) (by simp)
  · exact Rl.ok (Nat.le_refl _) rfl
theorem ruleP_rl (hs : Sim S S' d n false) (k : Nat) : Rl S S' d n k pos3 (sh3 d) (ruleP S k) (ruleP S' (k + d)) := by
  unfold ruleP
  refine (atomP_rl hs true k false).bind fun h _ => ?_
  refine (bodyP_rl hs h.2.1 h.2.2).bind fun b _ => ?_
  refine (markP_rl hs b.2 7 (fun h => by cases h)).bind fun k3 _ => ?_
  exact Rl.ok (Nat.le_refl _) rfl
theorem progGo_rl (hs : Sim S S' d n false) : ∀ (f k : Nat) (acc : List Rm), acc.length ≤ 1024 → 1025 ≤ f + acc.length → Rl S S' d n k (fun a => a.2) (fun a => (a.1, a.2 + d)) (progGo S f k acc) (progGo S' f (k + d) acc)
  | 0, k, acc, h1, h2 => by omega
  | f + 1, k, acc, h1, h2 => by
    rw [progGo, progGo]
    refine (isP_rl hs k [0] (fun h => by cases h)).bind fun z _ => ?_
    split
    · exact Rl.ok (Nat.le_refl _) rfl
    · refine (wantP_rl hs k [1] (fun _ => by decide)).bind fun u hu => ?_
      split
      · exact Rl.err (Nat.le_refl _) (.inr ⟨(wantP_inv' hu).1, .inr ⟨by decide, by decide, wantP_lt hu (by decide)⟩⟩)
      · refine (ruleP_rl hs k).bind fun r _ => ?_
        exact progGo_rl hs f r.2.1 (acc ++ [r.1]) (by simp; omega) (by simp; omega)
/-- a rule that ends ahead of a place is read alike, whatever stands there -/
theorem ruleP_in (hs : Sim S S' d n false) {k : Nat} {r : Rm × Nat × Bool} (h : ruleP S k = .ok r) (hn : r.2.1 ≤ n) : ruleP S' (k + d) = .ok (r.1, r.2.1 + d, r.2.2) ∧ k < r.2.1 := by
  unfold ruleP at h ⊢
  obtain ⟨a, ha, h⟩ := bind_inv h
  obtain ⟨b, hb, h⟩ := bind_inv h
  obtain ⟨m, hm, h⟩ := bind_inv h
  cases h
  unfold markP at hm
  obtain ⟨u, hw, hm⟩ := bind_inv hm
  cases hm
  simp only at hn
  obtain ⟨k1, e1⟩ := (atomP_rl hs true k false).1 a ha
  obtain ⟨k2, e2⟩ := (bodyP_rl hs a.2.1 a.2.2).1 b hb
  have k1' : k ≤ a.2.1 := k1
  have k2' : a.2.1 ≤ b.2 := k2
  have hn' : b.2 + 1 ≤ n := hn
  have e1 := e1.resolve_left (fun h => by have h' : n ≤ a.2.1 := h; omega)
  have e2 := e2.resolve_left (fun h => by have h' : n ≤ b.2 := h; omega)
  have e3 := ((wantP_rl hs b.2 [7] (fun h => by cases h)).1 u hw).2.resolve_left (fun h => by have h' : n ≤ b.2 := h; omega)
  rw [e1, bind_ok']
  simp only [sh3]
  rw [e2, bind_ok']
  unfold markP
  rw [e3]
  refine ⟨?_, by show k < b.2 + 1; omega⟩
  simp only [bind_ok']
  rw [show b.2 + d + 1 = b.2 + 1 + d by omega]
end
end Go.Proofs.YteecbbnpgmceiaaGreatDoor
/-
  A text, an end of a line, and whatever: the tokens of the text stay what they are.
-/
namespace Go.Proofs.YteecbbnpgmceiaaGreatDoor
open Go Go.RowKit Go.Mine
set_option linter.unusedVariables false

/-- a text that goes on behind an end of a line -/
structure GoesLn (s t : ByteArray) : Prop where
  ex : ∃ b, t.data.toList = s.data.toList ++ 10 :: b
section
variable {s t : ByteArray}
theorem GoesLn.lt (h : GoesLn s t) : s.size < t.size := by
  obtain ⟨b, hb⟩ := h.ex
  have := congrArg List.length hb
  rw [List.length_append, ← Lib.size_eq, ← Lib.size_eq, List.length_cons] at this
  omega
theorem GoesLn.same (h : GoesLn s t) : ∀ i, i < s.size → t.get! i = s.get! i := fun i hi => by
  obtain ⟨b, hb⟩ := h.ex
  rw [getD_list, getD_list, hb, List.getD_eq_getElem?_getD, List.getD_eq_getElem?_getD, List.getElem?_append_left (by rw [← Lib.size_eq]; exact hi)]
theorem GoesLn.blank (h : GoesLn s t) : t.get! s.size = 10 := by
  obtain ⟨b, hb⟩ := h.ex
  rw [getD_list, hb, List.getD_eq_getElem?_getD, List.getElem?_append_right (by rw [← Lib.size_eq]; omega), ← Lib.size_eq, Nat.sub_self]; rfl
theorem GoesLn.at (h : GoesLn s t) {i : Nat} (hi : i < s.size) (hi' : i < t.size) : t[i] = s[i] := by
  have := h.same i hi
  rw [show t.get! i = t[i] by simpa using get_at t i hi', show s.get! i = s[i] by simpa using get_at s i hi] at this
  exact this
theorem GoesLn.drop (h : GoesLn s t) {i : Nat} (hi : i ≤ s.size) : ∃ b, t.data.toList.drop i = s.data.toList.drop i ++ 10 :: b := by
  obtain ⟨b, hb⟩ := h.ex
  exact ⟨b, by rw [hb, List.drop_append_of_le_length (by rw [← Lib.size_eq]; exact hi)]⟩
theorem GoesLn.extract (h : GoesLn s t) {i e : Nat} (hi : i ≤ s.size) (he : e ≤ s.size) : t.extract i e = s.extract i e := by
  obtain ⟨b, hb⟩ := h.drop hi
  apply ByteArray.ext
  apply Array.ext'
  rw [ext_data, ext_data, hb, List.take_append_of_le_length (by rw [List.length_drop, ← Lib.size_eq]; omega)]
theorem GoesLn.decode (h : GoesLn s t) {i : Nat} (hi : i < s.size) : Utf8.decode t i = Utf8.decode s i := by
  have hlt := h.lt
  have e0 := h.same i hi
  have c : ∀ k, i + k < s.size → t.get! (i + k) = s.get! (i + k) := fun k hk => h.same _ hk
  have nb : ∀ k, i + k = s.size → ((t.get! (i + k)).toNat / 64 == 2) = false := fun k hk => by rw [hk, h.blank]; decide
  unfold Utf8.decode
  simp only [Nat.add_zero, e0]
  by_cases h1 : i + 1 < s.size
  · have e1 := c 1 h1
    by_cases h2 : i + 2 < s.size
    · have e2 := c 2 h2
      by_cases h3 : i + 3 < s.size
      · have e3 := c 3 h3
        rw [e1, e2, e3, decide_eq_true h1, decide_eq_true h2, decide_eq_true h3, decide_eq_true (show i + 1 < t.size by omega), decide_eq_true (show i + 2 < t.size by omega), decide_eq_true (show i + 3 < t.size by omega)]
      · rw [e1, e2, decide_eq_true h1, decide_eq_true h2, decide_eq_false h3, decide_eq_true (show i + 1 < t.size by omega), decide_eq_true (show i + 2 < t.size by omega)]
        have hf : (decide (i + 3 < t.size) && (t.get! (i + 3)).toNat / 64 == 2) = false := by rw [nb 3 (by omega)]; simp
        rw [hf]
        simp
    · have hf : (decide (i + 2 < t.size) && (t.get! (i + 2)).toNat / 64 == 2) = false := by rw [nb 2 (by omega)]; simp
      rw [e1, decide_eq_true h1, decide_eq_false h2, decide_eq_true (show i + 1 < t.size by omega), hf]
      simp
  · have hf : (decide (i + 1 < t.size) && (t.get! (i + 1)).toNat / 64 == 2) = false := by rw [nb 1 (by omega)]; simp
    rw [decide_eq_false h1, hf]
    simp
theorem GoesLn.qGo (h : GoesLn s t) : ∀ (f i : Nat) (acc : List UInt8), i ≤ s.size → (Proofs.YteecbbnpgmceiaaGreatDoor.qGo s f i acc).2.2 = true → Proofs.YteecbbnpgmceiaaGreatDoor.qGo t f i acc = Proofs.YteecbbnpgmceiaaGreatDoor.qGo s f i acc
  | 0, i, acc, _, hk => by simp [Proofs.YteecbbnpgmceiaaGreatDoor.qGo] at hk
  | f + 1, i, acc, hi, hk => by
    have hlt := h.lt
    rw [Proofs.YteecbbnpgmceiaaGreatDoor.qGo] at hk
    rw [Proofs.YteecbbnpgmceiaaGreatDoor.qGo, Proofs.YteecbbnpgmceiaaGreatDoor.qGo]
    by_cases hl : i < s.size
    · rw [dif_pos hl] at hk
      rw [dif_pos hl, dif_pos (show i < t.size by omega), h.at hl (by omega), h.decode hl]
      by_cases h34 : s[i] = 34
      · rw [if_pos h34, if_pos h34]
      rw [if_neg h34, if_neg h34]
      rw [if_neg h34] at hk
      obtain ⟨b, hb⟩ := h.drop (i := i + 1) hl
      obtain ⟨b0, hb0⟩ := h.drop (i := i) hi
      by_cases h92 : s[i] = 92
      · rw [if_pos h92, if_pos h92]
        rw [if_pos h92] at hk
        have hle := escL_le (s.data.toList.drop (i + 1))
        rw [List.length_drop, ← Lib.size_eq] at hle
        by_cases he : (escL (s.data.toList.drop (i + 1))).2 = 0
        · rw [if_pos he] at hk; exact absurd hk (by simp)
        · rw [if_neg he] at hk
          have e2 := escL_app (m := 10 :: b) he
          rw [← hb] at e2
          rw [e2, if_neg he, if_neg he]
          exact h.qGo f _ _ (by omega) hk
      rw [if_neg h92, if_neg h92]
      rw [if_neg h92] at hk
      by_cases hp : 32 ≤ s[i].toNat ∧ s[i].toNat ≤ 126
      · rw [if_pos hp, if_pos hp]
        rw [if_pos hp] at hk
        exact h.qGo f _ _ (by omega) hk
      rw [if_neg hp, if_neg hp]
      rw [if_neg hp] at hk
      have hw := decode_width s i hl
      by_cases hd : (Utf8.decode s i).1 < 128 ∨ ((Utf8.decode s i).1 = 65533 ∧ (Utf8.decode s i).2 = 1)
      · rw [if_pos hd] at hk; exact absurd hk (by simp)
      · rw [if_neg hd] at hk
        rw [if_neg hd, if_neg hd, hb0, List.take_append_of_le_length (by rw [List.length_drop, ← Lib.size_eq]; omega)]
        exact h.qGo f _ _ (by omega) hk
    · rw [dif_neg hl] at hk; exact absurd hk (by simp)
theorem GoesLn.partL (h : GoesLn s t) {i : Nat} (hi : i ≤ s.size) : Proofs.YteecbbnpgmceiaaGreatDoor.partL t i = Proofs.YteecbbnpgmceiaaGreatDoor.partL s i := by
  have hlt := h.lt
  unfold Proofs.YteecbbnpgmceiaaGreatDoor.partL
  by_cases hl : i < s.size
  · rw [h.decode hl]
    simp only [hl, show i < t.size by omega, true_and]
  · obtain rfl : i = s.size := by omega
    have hd : Utf8.decode t s.size = (10, 1) := by
      have h32 : t[s.size].toNat = 10 := by
        have := h.blank
        rw [show t.get! s.size = t[s.size] by simpa using get_at t s.size hlt] at this
        rw [this]; rfl
      rw [decode_ascii t s.size hlt (by omega), h32]
    rw [hd, if_neg (by rintro ⟨_, hh⟩; exact absurd hh (by decide)), if_neg (by rintro ⟨hh, _⟩; exact hl hh)]
theorem GoesLn.endL (h : GoesLn s t) : ∀ (f i : Nat), i ≤ s.size → Proofs.YteecbbnpgmceiaaGreatDoor.endL t f i = Proofs.YteecbbnpgmceiaaGreatDoor.endL s f i
  | 0, i, _ => rfl
  | f + 1, i, hi => by
    rw [Proofs.YteecbbnpgmceiaaGreatDoor.endL, Proofs.YteecbbnpgmceiaaGreatDoor.endL, h.partL hi]
    split
    · rfl
    · exact h.endL f _ (partL_le hi)
theorem GoesLn.wordL (h : GoesLn s t) {i : Nat} (hi : i < s.size) : Proofs.YteecbbnpgmceiaaGreatDoor.wordL t i = Proofs.YteecbbnpgmceiaaGreatDoor.wordL s i := by
  have hlt := h.lt
  have hk : kindL t i = kindL s i := by
    unfold kindL
    rw [if_pos hi, if_pos (show i < t.size by omega), h.decode hi]
  unfold Proofs.YteecbbnpgmceiaaGreatDoor.wordL
  rw [hk]
  split
  · rfl
  · rw [h.endL t.size i (Nat.le_of_lt hi)]
    congr 1
    exact End.unique (Nat.le_of_lt hi) ⟨_, by omega, rfl⟩ ⟨_, by omega, rfl⟩
theorem markL_app10 {l m : List UInt8} (h : l ≠ []) : markL (l ++ 10 :: m) = markL l := by
  rcases l with _ | ⟨a, _ | ⟨b, r⟩⟩
  · exact absurd rfl h
  · rw [List.cons_append, List.nil_append]
    unfold markL
    split <;> simp_all
  · rw [List.cons_append, List.cons_append, markL_two2, markL_two2]
theorem takeWhile10 (b : List UInt8) : ∀ l : List UInt8, (l ++ 10 :: b).takeWhile (· != 10) = l.takeWhile (· != 10)
  | [] => by simp
  | c :: l => by
    rw [List.cons_append, List.takeWhile_cons, List.takeWhile_cons, takeWhile10 b l]
theorem GoesLn.cmtE (h : GoesLn s t) {i : Nat} (hi : i ≤ s.size) : Proofs.YteecbbnpgmceiaaGreatDoor.cmtE t i = Proofs.YteecbbnpgmceiaaGreatDoor.cmtE s i := by
  obtain ⟨b, hb⟩ := h.drop hi
  unfold Proofs.YteecbbnpgmceiaaGreatDoor.cmtE
  rw [hb, takeWhile10]
theorem TRes.ofCmt {i : Nat} {r : List Tok × Nat × Nat} (hi : i < s.size) (hc : s[i] = 37) (h : TRes s (Proofs.YteecbbnpgmceiaaGreatDoor.cmtE s i) r) : TRes s i r := by
  obtain ⟨f, hf, rfl⟩ := h
  have := cmtE_pos hi hc
  refine ⟨f + s.size + 1, by omega, ?_⟩
  have hfu : scanGo s f (Proofs.YteecbbnpgmceiaaGreatDoor.cmtE s i) = scanGo s (f + s.size) (Proofs.YteecbbnpgmceiaaGreatDoor.cmtE s i) := scanGo_fuel f _ _ hf (by omega)
  rw [hfu, scanGo, dif_pos hi, if_neg (by rw [hc]; decide), if_pos hc]
theorem GoesLn.scan (h : GoesLn s t) {r : List Tok × Nat × Nat} (hr : TRes t (s.size + 1) r) : ∀ (n i : Nat), s.size - i = n → i ≤ s.size → ∀ (ts : List Tok) (p : Nat), TRes s i (ts, p, 0) → TRes t i (ts ++ r.1, r.2) := by
  have hlt := h.lt
  intro n
  induction n using Nat.strongRecOn with
  | _ n ih =>
    intro i hn hi ts p hT
    by_cases hl : i < s.size
    · have hl' : i < t.size := by omega
      have hat := h.at hl hl'
      by_cases hb : s[i] = 32 ∨ s[i] = 9 ∨ s[i] = 10 ∨ s[i] = 13
      · exact TRes.ofBlank hl' (by rw [hat]; exact hb) (ih _ (by omega) (i + 1) rfl hl ts p (hT.blank hl hb))
      by_cases hc : s[i] = 37
      · have hp := cmtE_pos hl hc
        have hle := cmtE_le hi
        have := ih _ (by omega) (Proofs.YteecbbnpgmceiaaGreatDoor.cmtE s i) rfl hle ts p (hT.cmt hl hc)
        rw [← h.cmtE hi] at this
        exact TRes.ofCmt hl' (by rw [hat]; exact hc) this
      by_cases hq : s[i] = 34
      · rcases hqe : quoteE s (i + 1) with ⟨x, e, ok⟩
        cases ok with
        | false => have := hT.quote0 hl hq hqe; simp at this
        | true =>
          obtain ⟨r', h1, h2⟩ := hT.quote1 hl hq hqe
          obtain ⟨ts', rfl, rfl⟩ := tcons_inv h1
          have hle := qGo_le (s := s) (s.size + 1) (i + 1) [] (by omega)
          have e1 : Proofs.YteecbbnpgmceiaaGreatDoor.qGo s (s.size + 1) (i + 1) [] = (x, e, true) := hqe
          rw [e1] at hle
          have hle3 := hle.2.2 rfl
          simp only at hle hle3
          have hfs : Proofs.YteecbbnpgmceiaaGreatDoor.qGo s (t.size + 1) (i + 1) [] = (x, e, true) := by rw [← e1]; exact qGo_fuel _ _ _ _ (by omega) (by omega)
          have hqt : quoteE t (i + 1) = (x, e, true) := by
            unfold quoteE
            rw [h.qGo _ _ _ (by omega) (by rw [hfs]), hfs]
          exact TRes.ofQuote hl' (by rw [hat]; exact hq) hqt (ih _ (by omega) e rfl (by omega) ts' p h2)
      have hpl : plainB s[i] := by
        refine ⟨fun h => hb (.inl h), fun h => hb (.inr (.inl h)), fun h => hb (.inr (.inr (.inl h))), fun h => hb (.inr (.inr (.inr h))), hc, hq⟩
      have hplt : plainB t[i] := by rw [hat]; exact hpl
      rcases hw : Proofs.YteecbbnpgmceiaaGreatDoor.wordL s i with ⟨kd, e⟩
      have hwt : Proofs.YteecbbnpgmceiaaGreatDoor.wordL t i = (kd, e) := by rw [h.wordL hl, hw]
      by_cases hk : kd = 0
      · subst hk
        have hmt : markL (t.data.toList.drop i) = markL (s.data.toList.drop i) := by
          obtain ⟨b, hbb⟩ := h.drop hi
          rw [hbb]
          exact markL_app10 (by intro hh; have := congrArg List.length hh; rw [List.length_drop, ← Lib.size_eq] at this; simp at this; omega)
        rcases hm : markL (s.data.toList.drop i) with ⟨mk, mn⟩
        by_cases hmk : mk = 0
        · have := hT.none hl hpl (by rw [hw]) (by rw [hm]; exact hmk); simp at this
        · obtain ⟨r', h1, h2⟩ := hT.mark hl hpl (by rw [hw]) hm hmk
          obtain ⟨ts', rfl, rfl⟩ := tcons_inv h1
          have hml := markL_le (s.data.toList.drop i)
          rw [hm, List.length_drop, ← Lib.size_eq] at hml
          simp only at hml
          have := hml.2.2 hmk
          exact TRes.ofMark hl' hplt (by rw [hwt]) (by rw [hmt, hm]) hmk (ih _ (by omega) (i + mn) rfl (by omega) ts' p h2)
      · obtain ⟨r', h1, h2⟩ := hT.word hl hpl hw hk
        obtain ⟨ts', rfl, rfl⟩ := tcons_inv h1
        have hp := wordL_pos hi (by rw [hw]; exact hk)
        rw [hw] at hp
        simp only at hp
        rw [← h.extract hi hp.2.1]
        exact TRes.ofWord hl' hplt hwt hk (ih _ (by omega) e rfl hp.2.1 ts' p h2)
    · obtain rfl : i = s.size := by omega
      have := hT.out (by omega)
      simp only [Prod.mk.injEq] at this
      obtain ⟨rfl, _⟩ := this
      have h32 : t[s.size] = 10 := by
        have := h.blank
        rwa [show t.get! s.size = t[s.size] by simpa using get_at t s.size hlt] at this
      exact TRes.ofBlank hlt (.inr (.inr (.inl h32))) (by simpa using hr)
end
end Go.Proofs.YteecbbnpgmceiaaGreatDoor
/-
  What stands behind a line's end is scanned as it is by itself, its places so much later.
-/
namespace Go.Proofs.YteecbbnpgmceiaaGreatDoor
open Go Go.RowKit Go.Mine
set_option linter.unusedVariables false

section
variable {s : ByteArray} {j : Nat}
theorem quoteE_shift (hj : j ≤ s.size) (i : Nat) : quoteE s (j + i) = ((quoteE (s.extract j s.size) i).1, j + (quoteE (s.extract j s.size) i).2.1, (quoteE (s.extract j s.size) i).2.2) := by
  unfold quoteE
  rw [← qGo_shift hj]
  exact qGo_fuel _ _ _ _ (by omega) (by rw [ext_size]; omega)
theorem wordL_shift2 (hj : j ≤ s.size) {i : Nat} (hi : i ≤ (s.extract j s.size).size) : wordL s (j + i) = ((wordL (s.extract j s.size) i).1, j + (wordL (s.extract j s.size) i).2) := by
  have hk := kindL_shift hj i
  have hi2 := hi
  rw [ext_size] at hi2
  unfold wordL
  rw [hk]
  by_cases h : kindL s (j + i) = 0
  · rw [if_pos h, if_pos h]
  · rw [if_neg h, if_neg h]
    have h1 := endL_shift hj (s.extract j s.size).size i
    have : endL s s.size (j + i) = endL s (s.extract j s.size).size (j + i) := by
      refine End.unique (by omega) ⟨_, ?_, rfl⟩ ⟨_, ?_, rfl⟩
      · omega
      · rw [ext_size]; omega
    rw [this, h1]
theorem cmtE_shift (hj : j ≤ s.size) (i : Nat) : cmtE s (j + i) = j + cmtE (s.extract j s.size) i := by
  unfold cmtE
  rw [ext_drop, List.drop_drop, Nat.add_assoc]
def shT (j : Nat) (t : Tok) : Tok := ⟨t.kind, t.text, j + t.at_⟩
def shR (j : Nat) (r : List Tok × Nat × Nat) : List Tok × Nat × Nat := (r.1.map (shT j), (if r.2.2 = 0 then r.2.1 else j + r.2.1), r.2.2)
theorem shR_tcons (t : Tok) (r : List Tok × Nat × Nat) : shR j (tcons t r) = tcons (shT j t) (shR j r) := rfl
theorem ext_ext (hj : j ≤ s.size) {i e : Nat} : s.extract (j + i) (j + e) = (s.extract j s.size).extract i e := by
  apply ByteArray.ext
  apply Array.ext'
  rw [ext_data, ext_data, ext_drop, List.drop_drop, show j + e - (j + i) = e - i by omega]
theorem scanGo_shift (hj : j ≤ s.size) : ∀ (f i : Nat), i ≤ (s.extract j s.size).size → scanGo s f (j + i) = shR j (scanGo (s.extract j s.size) f i)
  | 0, i, _ => rfl
  | f + 1, i, hi => by
    have hi2 := hi
    rw [ext_size] at hi2
    rw [scanGo, scanGo]
    by_cases hl : j + i < s.size
    · have hl' : i < (s.extract j s.size).size := by rw [ext_size]; omega
      rw [dif_pos hl, dif_pos hl', ext_at s j i hl hl']
      by_cases hb : s[j + i] = 32 ∨ s[j + i] = 9 ∨ s[j + i] = 10 ∨ s[j + i] = 13
      · rw [if_pos hb, if_pos hb]; exact scanGo_shift hj f (i + 1) hl'
      rw [if_neg hb, if_neg hb]
      by_cases hc : s[j + i] = 37
      · rw [if_pos hc, if_pos hc, cmtE_shift hj]
        exact scanGo_shift hj f _ (cmtE_le hi)
      rw [if_neg hc, if_neg hc]
      by_cases hq : s[j + i] = 34
      · rw [if_pos hq, if_pos hq]
        have he := quoteE_shift hj (i + 1)
        rw [← Nat.add_assoc] at he
        rw [he]
        have hle := (qGo_le (s := s.extract j s.size) ((s.extract j s.size).size + 1) (i + 1) [] hl').2.1
        by_cases hok : (quoteE (s.extract j s.size) (i + 1)).2.2 = true
        · rw [if_pos hok, if_pos hok, shR_tcons, ← scanGo_shift hj f (quoteE (s.extract j s.size) (i + 1)).2.1 hle]; rfl
        · rw [if_neg hok, if_neg hok]; rfl
      rw [if_neg hq, if_neg hq, wordL_shift2 hj hi]
      by_cases hw : (wordL (s.extract j s.size) i).1 ≠ 0
      · have hp := wordL_pos hi hw
        rw [if_pos hw, if_pos hw, shR_tcons, ← scanGo_shift hj f (wordL (s.extract j s.size) i).2 hp.2.1]
        simp only [ext_ext hj]; rfl
      rw [if_neg hw, if_neg hw]
      have hd : (s.extract j s.size).data.toList.drop i = s.data.toList.drop (j + i) := by rw [ext_drop, List.drop_drop]
      rw [hd]
      by_cases hk : (markL (s.data.toList.drop (j + i))).1 ≠ 0
      · have hm := (markL_le (s.data.toList.drop (j + i))).1
        rw [List.length_drop, ← Lib.size_eq] at hm
        rw [if_pos hk, if_pos hk, shR_tcons, Nat.add_assoc, scanGo_shift hj f _ (by rw [ext_size]; omega)]; rfl
      · rw [if_neg hk, if_neg hk]; rfl
    · have hl' : ¬ i < (s.extract j s.size).size := by rw [ext_size]; omega
      rw [dif_neg hl, dif_neg hl']; rfl
end
/-- **the law**: a text, a line's end, another text -/
theorem scanL_line {s o t : ByteArray} (h : t.data.toList = s.data.toList ++ 10 :: o.data.toList) (h0 : (scanL s).2.2 = 0) :
    scanL t = ((scanL s).1 ++ (shR (s.size + 1) (scanL o)).1, (shR (s.size + 1) (scanL o)).2) := by
  have hg : GoesLn s t := ⟨_, h⟩
  have hlt := hg.lt
  have he : t.extract (s.size + 1) t.size = o := by
    apply ByteArray.ext
    apply Array.ext'
    rw [ext_drop, h, List.drop_append, List.drop_of_length_le (by rw [← Lib.size_eq]; omega), ← Lib.size_eq, show s.size + 1 - s.size = 1 by omega]; rfl
  have hs := scanGo_shift (s := t) (j := s.size + 1) hlt (o.size + 1) 0 (Nat.zero_le _)
  rw [he, Nat.add_zero] at hs
  have hsz : t.size = s.size + 1 + o.size := by
    have := congrArg List.length h
    rw [List.length_append, List.length_cons, ← Lib.size_eq, ← Lib.size_eq, ← Lib.size_eq] at this
    omega
  have hr : TRes t (s.size + 1) (shR (s.size + 1) (scanL o)) := ⟨o.size + 1, by omega, hs.symm⟩
  have hsr : TRes s 0 ((scanL s).1, (scanL s).2.1, 0) := by
    have := scanL_res s
    rw [show scanL s = ((scanL s).1, (scanL s).2.1, (scanL s).2.2) from rfl, h0] at this
    exact this
  exact (scanL_res t).uniq (hg.scan hr _ 0 rfl (Nat.zero_le _) _ _ hsr)
end Go.Proofs.YteecbbnpgmceiaaGreatDoor
/-
  The plain law of reading: errors and their places; atoms as rules, rules as programs.
-/
namespace Go.Proofs.YteecbbnpgmceiaaGreatDoor
open Go Go.RowKit Go.Mine
set_option linter.unusedVariables false

theorem sim_refl (S : Toks) (n : Nat) (z : Bool) : Sim S S 0 n z := ⟨fun _ _ => .inl rfl, fun _ _ => rfl, fun _ _ => rfl, fun _ _ _ => rfl⟩
theorem rises_lt {n : Nat} : ∀ {i : Nat} {ts : List Tok}, Rises n i ts → ∀ t ∈ ts, i ≤ t.at_ ∧ t.at_ < n
  | i, [], _, t, ht => by cases ht
  | i, x :: ts, h, t, ht => by
    rcases List.mem_cons.1 ht with rfl | ht
    · exact ⟨h.1, by have := h.2; omega⟩
    · have := rises_lt h.2.2.2.2 t ht
      have := h.1; have := h.2
      omega
theorem toksOf_lt (s : ByteArray) : ∀ t ∈ (toksOf s).ts, t.at_ < s.size := fun t ht =>
  (rises_lt (scanGo_rises (s := s) (s.size + 1) 0 (Nat.zero_le _)).1 t ht).2
theorem toksOf_fin (s : ByteArray) : (toksOf s).fin ≤ s.size := by
  show (if (scanL s).2.2 = 0 then s.size else (scanL s).2.1) ≤ s.size
  split
  · exact Nat.le_refl _
  · exact (scanGo_rises (s := s) (s.size + 1) 0 (Nat.zero_le _)).2
theorem tok_at_le (s : ByteArray) (k : Nat) : ((toksOf s).tok k).at_ ≤ s.size := by
  by_cases hk : k < (toksOf s).ts.length
  · rw [tok_in hk]; exact Nat.le_of_lt (toksOf_lt s _ (List.getElem_mem hk))
  · rw [tok_out (by omega)]; exact toksOf_fin s
/-- an error stands at a token -/
def AtTok (S : Toks) (e : Nat × Nat) : Prop := ∃ j, e.2 = (S.tok j).at_ ∧ Ec S j e.1
theorem Rl.atTok {S S' : Toks} {d n k : Nat} {α : Type} {pos : α → Nat} {sh : α → α} {r r' : PR α} (h : Rl S S' d n k pos sh r r') {e : Nat × Nat} (he : r = .error e) : AtTok S e := by
  obtain ⟨j, _, h2, h3, _⟩ := h.2 e he
  exact ⟨j, h2, h3⟩
theorem bind_err_inv {ε α β : Type} {x : Except ε α} {f : α → Except ε β} {e : ε} (h : x.bind f = .error e) : x = .error e ∨ ∃ a, x = .ok a ∧ f a = .error e := by
  cases x with
  | error e' => cases h; exact .inl rfl
  | ok a => exact .inr ⟨a, rfl, h⟩
theorem whole_err {α : Type} {S : Toks} {r : PR (α × Nat)} {e : Nat × Nat} (h : wholeP S r = .error e) (hr : ∀ e, r = .error e → AtTok S e) : AtTok S e := by
  unfold wholeP at h
  rcases bind_err_inv h with h | ⟨a, _, h⟩
  · exact hr e h
  · rcases bind_err_inv h with h | ⟨u, _, h⟩
    · exact (wantP_rl (sim_refl S 0 false) a.2 [0] (fun h => by cases h)).atTok h
    · cases h
theorem read_err {α : Type} {s : ByteArray} {one : Toks → PR (α × Nat)} {e : Nat × Nat} (h : readL s one = .error e) (hr : ∀ e, one (toksOf s) = .error e → AtTok (toksOf s) e) : (65536 < s.size ∧ e = (3, 0)) ∨ AtTok (toksOf s) e := by
  unfold readL at h
  split at h
  · rename_i hl; cases h; exact .inl ⟨hl, rfl⟩
  · exact .inr (whole_err h hr)
theorem prog_at {S : Toks} {e : Nat × Nat} (h : progP S = .error e) : AtTok S e :=
  (progGo_rl (sim_refl S 0 false) 1025 0 [] (by simp) (by simp)).atTok h
theorem rule_at {S : Toks} {e : Nat × Nat} (h : ruleOne S = .error e) : AtTok S e := by
  unfold ruleOne at h
  rcases bind_err_inv h with h | ⟨a, _, h⟩
  · exact (ruleP_rl (sim_refl S 0 false) 0).atTok h
  · cases h
theorem atom_at {S : Toks} {e : Nat × Nat} (h : atomOne S = .error e) : AtTok S e := by
  unfold atomOne at h
  rcases bind_err_inv h with h | ⟨a, _, h⟩
  · exact (atomP_rl (sim_refl S 0 false) false 0 false).atTok h
  · cases h
/-- an error, by number and place -/
theorem read_err2 {α : Type} {s : ByteArray} {one : Toks → PR (α × Nat)} {e : Nat × Nat} (h : readL s one = .error e) (hr : ∀ e, one (toksOf s) = .error e → AtTok (toksOf s) e) : e.1 ≠ 0 ∧ e.2 ≤ s.size := by
  rcases read_err h hr with ⟨_, rfl⟩ | ⟨j, h1, h2⟩
  · exact ⟨by decide, Nat.zero_le _⟩
  · exact ⟨h2.ne, by rw [h1]; exact tok_at_le s j⟩
section
variable {S : Toks} {k : Nat} {agg : Bool}
theorem part_of_term (hg : S.Gd) {r : Tm × Nat} (h : termP S k = .ok r) (hb : S.bad r.2 = false) (h4 : (S.tok r.2).kind ≠ 4) : partP S k agg = .ok (r.1, r.2, agg) := by
  have hbk := (termP_inv hg h).2.2.1
  unfold partP
  rw [isP_val hbk, bind_ok', h, bind_ok']
  split
  · rfl
  · rw [isP_val hb, bind_ok', if_pos (by simpa using h4)]
theorem termsGo_head (hg : S.Gd) : ∀ {f k : Nat} {agg : Bool} {acc : List Tm} {r : List Tm × Nat × Bool}, termsGo false S f k agg acc = .ok r → S.bad r.2.1 = false → (S.tok r.2.1).kind ≠ 4 → termsGo true S f k agg acc = .ok r
  | 0, _, _, _, _, h, _, _ => by cases h
  | f + 1, k, agg, acc, r, h, hb, h4 => by
    rw [termsGo] at h ⊢
    obtain ⟨u, hu, h⟩ := bind_inv h
    rw [hu, bind_ok']
    split at h
    · cases h
    · rename_i hl
      rw [if_neg hl]
      obtain ⟨q, ho, h⟩ := bind_inv h
      obtain ⟨c, hc, h⟩ := bind_inv h
      unfold oneP at ho
      rw [if_neg (by decide)] at ho
      obtain ⟨t, ht, ho⟩ := bind_inv ho
      cases ho
      obtain ⟨hcb, hcv⟩ := isP_inv hc
      unfold oneP
      rw [if_pos rfl]
      cases c with
      | true =>
        have hk : (S.tok t.2).kind = 6 := by simpa using hcv.symm
        rw [part_of_term hg ht hcb (by omega), bind_ok', hc, bind_ok', if_pos rfl]
        rw [if_pos rfl] at h
        exact termsGo_head hg h hb h4
      | false =>
        rw [if_neg (by decide)] at h
        cases h
        rw [part_of_term hg ht hb h4, bind_ok', hc, bind_ok', if_neg (by decide)]
theorem markP_inv {c : Nat} {r : Nat} (h : markP S k c = .ok r) : S.bad k = false ∧ (S.tok k).kind = c ∧ r = k + 1 := by
  unfold markP at h
  obtain ⟨u, hu, h⟩ := bind_inv h
  cases h
  obtain ⟨h1, h2⟩ := wantP_inv hu
  exact ⟨h1, by simpa using h2, rfl⟩
theorem markP_yes {c : Nat} (hb : S.bad k = false) (hk : (S.tok k).kind = c) : markP S k c = .ok (k + 1) := by
  unfold markP
  rw [wantP_ok hb (by rw [hk]; simp)]; rfl
theorem termsP_head (hg : S.Gd) {r : List Tm × Nat × Bool} (h : termsP false S k agg = .ok r) : termsP true S k agg = .ok r := by
  unfold termsP at h ⊢
  obtain ⟨o, ho, h⟩ := bind_inv h
  rw [ho, bind_ok']
  split at h
  · rename_i hf; rw [if_pos hf]; exact h
  · rename_i hf
    rw [if_neg hf]
    obtain ⟨q, hq, h⟩ := bind_inv h
    obtain ⟨z, hz, h⟩ := bind_inv h
    cases h
    obtain ⟨h1, h2, rfl⟩ := markP_inv hz
    rw [termsGo_head hg hq h1 (by omega), bind_ok', hz]; rfl
theorem atomP_head (hg : S.Gd) {r : Am × Nat × Bool} (h : atomP false S k agg = .ok r) : atomP true S k agg = .ok r := by
  unfold atomP at h ⊢
  obtain ⟨q, hq, h⟩ := bind_inv h
  obtain ⟨z, hz, h⟩ := bind_inv h
  rw [hq, bind_ok', termsP_head hg hz]
  exact h
theorem atomP_end {head : Bool} {r : Am × Nat × Bool} (h : atomP head S k agg = .ok r) : r.2.1 ≤ S.ts.length := by
  unfold atomP at h
  obtain ⟨q, hq, h⟩ := bind_inv h
  obtain ⟨z, hz, h⟩ := bind_inv h
  cases h
  unfold wordP at hq
  obtain ⟨u, hu, hq⟩ := bind_inv hq
  have hw := wantP_lt hu (by decide)
  split at hq
  · cases hq
  · cases hq
    unfold termsP at hz
    obtain ⟨o, ho, hz⟩ := bind_inv hz
    split at hz
    · cases hz; exact hw
    · obtain ⟨y, hy, hz⟩ := bind_inv hz
      obtain ⟨m, hm, hz⟩ := bind_inv hz
      cases hz
      obtain ⟨_, h2, rfl⟩ := markP_inv hm
      exact in_kind (by omega)
end
/-- a text that is an atom -/
theorem atom_inv {s : ByteArray} {a : Am} (h : readL s atomOne = .ok a) : ∃ g, atomP false (toksOf s) 0 false = .ok (a, (toksOf s).ts.length, g) ∧ (toksOf s).fault = 0 := by
  obtain ⟨_, h⟩ := (show s.size ≤ 65536 ∧ wholeP (toksOf s) (atomOne (toksOf s)) = .ok a by
    unfold readL at h
    split at h
    · cases h
    · exact ⟨by omega, h⟩)
  unfold wholeP at h
  obtain ⟨x, hx, h⟩ := bind_inv h
  obtain ⟨u, hu, h⟩ := bind_inv h
  cases h
  unfold atomOne at hx
  obtain ⟨q, hq, hx⟩ := bind_inv hx
  cases hx
  have hend := atomP_end hq
  obtain ⟨hb, hk⟩ := wantP_inv hu
  have hk0 : ((toksOf s).tok q.2.1).kind = 0 := by simpa using hk
  have hge : (toksOf s).ts.length ≤ q.2.1 := by
    by_cases hlt : q.2.1 < (toksOf s).ts.length
    · have := ((toksOf_wf s).tok q.2.1).2.2 hlt; omega
    · omega
  have he : q.2.1 = (toksOf s).ts.length := by omega
  refine ⟨q.2.2, by rw [← he]; exact hq, ?_⟩
  unfold Toks.bad at hb
  rw [decide_eq_true hge] at hb
  simpa using hb
theorem atom_not_rule {s : ByteArray} {a : Am} {r : Rm} (h : readL s atomOne = .ok a) (h2 : readL s ruleOne = .ok r) : False := by
  obtain ⟨g, ha, hf⟩ := atom_inv h
  obtain ⟨_, k, h2⟩ := readL_inv h2
  unfold ruleOne at h2
  obtain ⟨q, hq, h2⟩ := bind_inv h2
  unfold ruleP at hq
  obtain ⟨x, hx, hq⟩ := bind_inv hq
  rw [atomP_head (toksOf_gd s) ha] at hx
  cases hx
  obtain ⟨b, hb, hq⟩ := bind_inv hq
  obtain ⟨m, hm, hq⟩ := bind_inv hq
  have hk : ((toksOf s).tok (toksOf s).ts.length).kind = 0 := by rw [tok_out (Nat.le_refl _)]
  have hbd : (toksOf s).bad (toksOf s).ts.length = false := by unfold Toks.bad; rw [hf]; simp
  unfold bodyP at hb
  rw [isP_val hbd, bind_ok', if_neg (by rw [hk]; decide)] at hb
  cases hb
  have := (markP_inv hm).2.1
  simp only at this
  omega
theorem scan_stop : scanL ⟨#[46]⟩ = ([⟨7, emptyB, 0⟩], 0, 0) := by rfl
/-- an atom and a full stop are a rule -/
theorem rule_of_atom {s t : ByteArray} {a : Am} (ht : t.data.toList = s.data.toList ++ [10, 46]) (h : readL s atomOne = .ok a) (hs : t.size ≤ 65536) : readL t ruleOne = .ok ⟨a, []⟩ := by
  obtain ⟨g, ha, hf⟩ := atom_inv h
  have hl := scanL_line (s := s) (o := ⟨#[46]⟩) (t := t) ht hf
  rw [scan_stop] at hl
  have e1 : (toksOf t).ts = (toksOf s).ts ++ [⟨7, emptyB, s.size + 1⟩] := by
    show (scanL t).1 = _
    rw [hl]; rfl
  have e2 : (toksOf t).fault = 0 := by
    show (scanL t).2.2 = 0
    rw [hl]; rfl
  have hbt : ∀ k, (toksOf t).bad k = false := fun k => by unfold Toks.bad; rw [e2]; simp
  have hbs : ∀ k, (toksOf s).bad k = false := fun k => by unfold Toks.bad; rw [hf]; simp
  have k1 : ∀ k, k < (toksOf s).ts.length → (toksOf t).tok k = (toksOf s).tok k := fun k hk => by
    rw [tok_in hk, tok_in (by rw [e1, List.length_append]; omega)]
    simp only [e1]
    rw [List.getElem_append_left hk]
  have k2 : (toksOf t).tok (toksOf s).ts.length = ⟨7, emptyB, s.size + 1⟩ := by
    rw [tok_in (by rw [e1, List.length_append]; simp)]
    simp only [e1]
    rw [List.getElem_append_right (Nat.le_refl _)]
    simp
  have k3 : ∀ k, (toksOf s).ts.length < k → (toksOf t).tok k = ⟨0, emptyB, (toksOf t).fin⟩ := fun k hk => tok_out (by rw [e1, List.length_append]; exact hk)
  have hsim : Sim (toksOf s) (toksOf t) 0 ((toksOf s).ts.length + 1) true := by
    refine ⟨fun k hk => ?_, fun k hk => ?_, fun k _ => by rw [hbt, hbs], fun k _ hb => by rw [hbs] at hb; cases hb⟩
    · by_cases hlt : k < (toksOf s).ts.length
      · exact .inl (by rw [Nat.add_zero, k1 k hlt])
      · obtain rfl : k = (toksOf s).ts.length := by omega
        exact .inr ⟨rfl, by rw [tok_out (Nat.le_refl _)], by rw [Nat.add_zero, k2]⟩
    · by_cases hlt : k < (toksOf s).ts.length
      · rw [Nat.add_zero, k1 k hlt]
      · obtain rfl : k = (toksOf s).ts.length := by omega
        rw [Nat.add_zero, k2, tok_out (Nat.le_refl _)]
  have hat := ((atomP_rl hsim false 0 false).1 _ ha).2.resolve_left (fun hh => by have h' : (toksOf s).ts.length + 1 ≤ (toksOf s).ts.length := hh; omega)
  have hat2 := atomP_head (toksOf_gd t) hat
  rw [Nat.add_zero] at hat2
  unfold readL
  rw [if_neg (by omega)]
  have hru : ruleP (toksOf t) 0 = .ok (⟨a, []⟩, (toksOf s).ts.length + 1, g) := by
    unfold ruleP
    rw [hat2, bind_ok']
    simp only [sh3, Nat.add_zero]
    have hbo : bodyP (toksOf t) (toksOf s).ts.length g = .ok ([], (toksOf s).ts.length) := by
      unfold bodyP
      rw [isP_val (hbt _), bind_ok', if_neg (by rw [k2]; show ¬ ([8] : List Nat).contains 7 = true; decide)]
    rw [hbo, bind_ok', markP_yes (hbt _) (by rw [k2])]; rfl
  unfold ruleOne wholeP
  rw [hru, bind_ok', bind_ok', wantP_ok (hbt _) (by simp only; rw [k3 _ (Nat.lt_succ_self _)]; show ([0] : List Nat).contains 0 = true; decide)]; rfl
/-- a rule is a program -/
theorem prog_of_rule {s : ByteArray} {r : Rm} (h : readL s ruleOne = .ok r) : readL s progP = .ok [r] := by
  unfold readL at h ⊢
  split at h
  · cases h
  · rename_i hl
    rw [if_neg hl]
    unfold wholeP at h
    obtain ⟨x, hx, h⟩ := bind_inv h
    obtain ⟨u, hu, h⟩ := bind_inv h
    cases h
    unfold ruleOne at hx
    obtain ⟨q, hq, hx⟩ := bind_inv hx
    cases hx
    have hw : wantP (toksOf s) 0 [1] = .ok () := by
      unfold ruleP at hq
      obtain ⟨y, hy, _⟩ := bind_inv hq
      unfold atomP at hy
      obtain ⟨z, hz, _⟩ := bind_inv hy
      unfold wordP at hz
      obtain ⟨v, hv, _⟩ := bind_inv hz
      exact hv
    obtain ⟨hb, hk⟩ := wantP_inv hw
    have hk1 : ((toksOf s).tok 0).kind = 1 := by simpa using hk
    obtain ⟨hb2, hk2⟩ := wantP_inv hu
    have hpr : progP (toksOf s) = .ok ([q.1], q.2.1) := by
      unfold progP
      rw [progGo, isP_val hb, bind_ok', if_neg (by rw [hk1]; decide), hw, bind_ok', if_neg (by decide), hq, bind_ok']
      simp only [List.nil_append]
      rw [progGo, isP_val hb2, bind_ok', if_pos hk2]
    unfold wholeP
    rw [hpr, bind_ok', hu]; rfl
end Go.Proofs.YteecbbnpgmceiaaGreatDoor
/-
  The plain law of reading: two rows of tokens that are alike ahead of a place, or throughout, are read alike.
-/
namespace Go.Proofs.YteecbbnpgmceiaaGreatDoor.R2
open Go Go.RowKit Go.Mine
set_option linter.unusedVariables false

/-- from n on; none: nowhere -/
def late : Option Nat → Nat → Prop
  | none, _ => False
  | some n, k => n ≤ k
theorem late_mono {n : Option Nat} {i j : Nat} (h : late n i) (hij : i ≤ j) : late n j := by
  cases n with
  | none => exact h.elim
  | some n => exact Nat.le_trans h hij
/-- ahead of token n the rows are alike, the second's by d tokens later (z: but that a full stop may stand where the first one ends) -/
structure Sim (S S' : Toks) (d : Nat) (n : Option Nat) (z : Bool) : Prop where
  kind : ∀ k, ¬ late n k → (S'.tok (k + d)).kind = (S.tok k).kind ∨ (z = true ∧ (S.tok k).kind = 0 ∧ (S'.tok (k + d)).kind = 7)
  text : ∀ k, ¬ late n k → (S'.tok (k + d)).text = (S.tok k).text
  bad : ∀ k, ¬ late n k → S'.bad (k + d) = S.bad k
  fault : ∀ k, ¬ late n k → S.bad k = true → S'.fault = S.fault
def Rl (S S' : Toks) (d : Nat) (n : Option Nat) (k : Nat) {α : Type} (pos : α → Nat) (sh : α → α) (r r' : PR α) : Prop :=
  (∀ a, r = .ok a → k ≤ pos a ∧ (late n (pos a) ∨ r' = .ok (sh a))) ∧
  ∀ e, r = .error e → ∃ j, k ≤ j ∧ e.2 = (S.tok j).at_ ∧ Ec S j e.1 ∧ (late n j ∨ r' = .error (e.1, (S'.tok (j + d)).at_))
section
variable {S S' : Toks} {d k : Nat} {n : Option Nat} {z : Bool} {α β : Type} {pos : α → Nat} {sh : α → α} {pos2 : β → Nat} {sh2 : β → β} {r r' : PR α}
theorem Rl.bind {f f' : α → PR β} (h : Rl S S' d n k pos sh r r') (hf : ∀ a, r = .ok a → Rl S S' d n (pos a) pos2 sh2 (f a) (f' (sh a))) : Rl S S' d n k pos2 sh2 (r.bind f) (r'.bind f') := by
  cases hr : r with
  | error e =>
    refine ⟨fun a h => (by cases h), fun e2 h2 => ?_⟩
    cases h2
    obtain ⟨j, h1, h2, hc, h3⟩ := h.2 e hr
    refine ⟨j, h1, h2, hc, ?_⟩
    rcases h3 with h3 | h3
    · exact .inl h3
    · exact .inr (by rw [h3]; rfl)
  | ok a =>
    obtain ⟨h1, h2⟩ := h.1 a hr
    have hfa := hf a hr
    rw [bind_ok']
    constructor
    · intro b hb
      obtain ⟨h3, h4⟩ := hfa.1 b hb
      refine ⟨Nat.le_trans h1 h3, ?_⟩
      rcases h2 with h2 | h2
      · exact .inl (late_mono h2 h3)
      · rcases h4 with h4 | h4
        · exact .inl h4
        · exact .inr (by rw [h2, bind_ok']; exact h4)
    · intro e he
      obtain ⟨j, h3, h4, hc, h5⟩ := hfa.2 e he
      refine ⟨j, Nat.le_trans h1 h3, h4, hc, ?_⟩
      rcases h2 with h2 | h2
      · exact .inl (late_mono h2 h3)
      · rcases h5 with h5 | h5
        · exact .inl h5
        · exact .inr (by rw [h2, bind_ok']; exact h5)
theorem Rl.ok {a a' : α} (hk : k ≤ pos a) (ha : a' = sh a) : Rl S S' d n k pos sh (.ok a) (.ok a') := by
  subst ha
  exact ⟨fun b hb => by cases hb; exact ⟨hk, .inr rfl⟩, fun e he => by cases he⟩
theorem Rl.err {c j : Nat} (hk : k ≤ j) (hc : Ec S j c) : Rl S S' d n k pos sh (.error (c, (S.tok j).at_)) (.error (c, (S'.tok (j + d)).at_)) :=
  ⟨fun b hb => (by cases hb), fun e he => by cases he; exact ⟨j, hk, rfl, hc, .inr rfl⟩⟩
theorem Rl.mono {k' : Nat} (h : Rl S S' d n k pos sh r r') (hk : k' ≤ k) : Rl S S' d n k' pos sh r r' :=
  ⟨fun a ha => ⟨Nat.le_trans hk (h.1 a ha).1, (h.1 a ha).2⟩, fun e he => by obtain ⟨j, h1, h2, hc, h3⟩ := h.2 e he; exact ⟨j, Nat.le_trans hk h1, h2, hc, h3⟩⟩
theorem Rl.prim (hp : ∀ a, r = .ok a → k ≤ pos a) (he : ∀ e, r = .error e → e.2 = (S.tok k).at_ ∧ Ec S k e.1)
    (hs : ¬ R2.late n k → (∀ a, r = .ok a → r' = .ok (sh a)) ∧ ∀ e, r = .error e → r' = .error (e.1, (S'.tok (k + d)).at_)) : Rl S S' d n k pos sh r r' := by
  by_cases hk : ¬ R2.late n k
  · exact ⟨fun a ha => ⟨hp a ha, .inr ((hs hk).1 a ha)⟩, fun e h => ⟨k, Nat.le_refl _, (he e h).1, (he e h).2, .inr ((hs hk).2 e h)⟩⟩
  · have hk := Classical.not_not.1 hk
    exact ⟨fun a ha => ⟨hp a ha, .inl (late_mono hk (hp a ha))⟩, fun e h => ⟨k, Nat.le_refl _, (he e h).1, (he e h).2, .inl hk⟩⟩
theorem Sim.cont (hs : Sim S S' d n z) {k : Nat} (hk : ¬ late n k) {ks : List Nat} (hz : z = true → ks.contains 0 = false ∧ ks.contains 7 = false) : ks.contains (S'.tok (k + d)).kind = ks.contains (S.tok k).kind := by
  rcases hs.kind k hk with h | ⟨h1, h2, h3⟩
  · rw [h]
  · rw [h2, h3, (hz h1).1, (hz h1).2]
theorem Rl.late {r'' : PR α} (hn : R2.late n k) (h : Rl S S' d n k pos sh r r'') : Rl S S' d n k pos sh r r' :=
  ⟨fun a ha => ⟨(h.1 a ha).1, .inl (late_mono hn (h.1 a ha).1)⟩, fun e he => by obtain ⟨j, h1, h2, hc, _⟩ := h.2 e he; exact ⟨j, h1, h2, hc, .inl (late_mono hn h1)⟩⟩
theorem isP_rl (hs : Sim S S' d n z) (k : Nat) (ks : List Nat) (hz : z = true → ks.contains 0 = false ∧ ks.contains 7 = false) : Rl S S' d n k (fun _ => k) (fun b => b) (isP S k ks) (isP S' (k + d) ks) := by
  refine Rl.prim (fun _ _ => Nat.le_refl _) (fun e h => by obtain ⟨h1, rfl⟩ := isP_err h; exact ⟨rfl, .inl ⟨rfl, h1⟩⟩) fun hk => ?_
  have h1 := hs.cont hk hz
  have h2 := hs.bad k hk
  cases hb : S.bad k with
  | true =>
    have h3 := hs.fault k hk hb
    rw [isP_bad hb, isP_bad (by rw [h2, hb]), h3]
    exact ⟨fun a h => (by cases h), fun e h => by cases h; rfl⟩
  | false =>
    rw [isP_val hb, isP_val (by rw [h2, hb]), h1]
    exact ⟨fun a h => h, fun e h => by cases h⟩
theorem wantP_inv' {S : Toks} {k : Nat} {ks : List Nat} {u : Unit} (h : wantP S k ks = .ok u) : S.bad k = false ∧ ks.contains (S.tok k).kind = true := by
  cases hb : S.bad k with
  | true => rw [wantP_bad hb] at h; cases h
  | false =>
    cases hc : ks.contains (S.tok k).kind with
    | false => rw [wantP_no hb hc] at h; cases h
    | true => exact ⟨rfl, rfl⟩
theorem wantP_lt {S : Toks} {k : Nat} {ks : List Nat} {u : Unit} (h : wantP S k ks = .ok u) (h0 : ks.contains 0 = false) : k < S.ts.length := by
  by_cases hk : k < S.ts.length
  · exact hk
  · have := (wantP_inv' h).2
    rw [tok_out (by omega)] at this
    rw [h0] at this; cases this
theorem wantP_rl (hs : Sim S S' d n z) (k : Nat) (ks : List Nat) (hz : z = true → ks.contains 0 = false ∧ ks.contains 7 = false) : Rl S S' d n k (fun _ => k) (fun b => b) (wantP S k ks) (wantP S' (k + d) ks) := by
  unfold wantP
  refine (isP_rl hs k ks hz).bind fun b hb => ?_
  split
  · exact Rl.ok (Nat.le_refl _) rfl
  · exact Rl.err (Nat.le_refl _) (.inr ⟨(isP_ok hb).1, .inl rfl⟩)
theorem wordP_rl (hs : Sim S S' d n z) (k : Nat) (ks : List Nat) (hz : z = true → ks.contains 0 = false ∧ ks.contains 7 = false) : Rl S S' d n k (fun a => a.2) (fun a => (a.1, a.2 + d)) (wordP S k ks) (wordP S' (k + d) ks) := by
  have e0 : ∀ e, wordP S k ks = .error e → e.2 = (S.tok k).at_ ∧ Ec S k e.1 := by
    intro e h
    cases hb : S.bad k with
    | true => rw [wordP_bad hb] at h; cases h; exact ⟨rfl, .inl ⟨rfl, hb⟩⟩
    | false =>
      cases hc : ks.contains (S.tok k).kind with
      | false => rw [wordP_no hb hc] at h; cases h; exact ⟨rfl, .inr ⟨hb, .inl rfl⟩⟩
      | true =>
        by_cases hl : 4096 < (S.tok k).text.size
        · rw [wordP_long hb hc hl] at h; cases h
          refine ⟨rfl, .inr ⟨hb, .inr ⟨(by decide : 81 ≤ 84), (by decide : 84 ≤ 84), ?_⟩⟩⟩
          by_cases hk : k < S.ts.length
          · exact hk
          · rw [tok_out (by omega)] at hl; exact absurd hl (by show ¬ 4096 < emptyB.size; decide)
        · rw [wordP_yes hb hc hl] at h; cases h
  refine Rl.prim (fun a h => by obtain ⟨_, _, _, rfl⟩ := wordP_ok h; simp) e0 fun hk => ?_
  have h1 := hs.cont hk hz
  have h2 := hs.bad k hk
  have h3 := hs.text k hk
  cases hb : S.bad k with
  | true =>
    have h4 := hs.fault k hk hb
    rw [wordP_bad hb, wordP_bad (by rw [h2, hb]), h4]
    exact ⟨fun a h => (by cases h), fun e h => by cases h; rfl⟩
  | false =>
    have hb' : S'.bad (k + d) = false := by rw [h2, hb]
    cases hc : ks.contains (S.tok k).kind with
    | false =>
      rw [wordP_no hb hc, wordP_no hb' (by rw [h1]; exact hc)]
      exact ⟨fun a h => (by cases h), fun e h => by cases h; rfl⟩
    | true =>
      by_cases hl : 4096 < (S.tok k).text.size
      · rw [wordP_long hb hc hl, wordP_long hb' (by rw [h1]; exact hc) (by rw [h3]; exact hl)]
        exact ⟨fun a h => (by cases h), fun e h => by cases h; rfl⟩
      · rw [wordP_yes hb hc hl, wordP_yes hb' (by rw [h1]; exact hc) (by rw [h3]; exact hl), h3]
        exact ⟨fun a h => by cases h; rw [show k + d + 1 = k + 1 + d by omega], fun e h => by cases h⟩
theorem markP_rl (hs : Sim S S' d n z) (k c : Nat) (hz : z = true → ([c] : List Nat).contains 0 = false ∧ ([c] : List Nat).contains 7 = false) : Rl S S' d n k (fun a => a) (fun a => a + d) (markP S k c) (markP S' (k + d) c) := by
  unfold markP
  refine (wantP_rl hs k [c] hz).bind fun b _ => ?_
  exact Rl.ok (Nat.le_succ _) (by omega)
theorem termP_rl (hs : Sim S S' d n z) (k : Nat) : Rl S S' d n k (fun a => a.2) (fun a => (a.1, a.2 + d)) (termP S k) (termP S' (k + d)) := by
  unfold termP
  refine (isP_rl hs k [2] (fun _ => by decide)).bind fun g _ => ?_
  split
  · refine (wordP_rl hs k [2] (fun _ => by decide)).bind fun r _ => ?_
    exact Rl.ok (Nat.le_refl _) rfl
  · refine (wordP_rl hs k [1, 3] (fun _ => by decide)).bind fun r _ => ?_
    exact Rl.ok (Nat.le_refl _) rfl
def notBl (S : Toks) (k : Nat) : PR Unit := (isP S k [2]).bind fun g => if g = true ∧ (S.tok k).text = blankB then .error (80, (S.tok k).at_) else .ok ()
theorem notBl_eq (S : Toks) (k : Nat) (x : PR β) : ((isP S k [2]).bind fun g => if g = true ∧ (S.tok k).text = blankB then .error (80, (S.tok k).at_) else x) = (notBl S k).bind fun _ => x := by
  unfold notBl
  cases isP S k [2] with
  | error e => rfl
  | ok g =>
    simp only [bind_ok']
    split
    · rfl
    · rfl
theorem notBl_rl (hs : Sim S S' d n z) (k : Nat) : Rl S S' d n k (fun _ => k) (fun b => b) (notBl S k) (notBl S' (k + d)) := by
  refine Rl.prim (fun _ _ => Nat.le_refl _) (fun e h => ?_) fun hk => ?_
  · unfold notBl at h
    cases hi : isP S k [2] with
    | error x =>
      rw [hi] at h; cases h
      obtain ⟨h1, rfl⟩ := isP_err hi
      exact ⟨rfl, .inl ⟨rfl, h1⟩⟩
    | ok g =>
      rw [hi, bind_ok'] at h
      split at h
      · cases h; exact ⟨rfl, .inr ⟨(isP_ok hi).1, .inl rfl⟩⟩
      · cases h
  · have h := isP_rl hs k [2] (fun _ => by decide)
    unfold notBl
    rw [hs.text k hk]
    cases hi : isP S k [2] with
    | error x =>
      rw [(isP_err hi).2]
      have hb := (isP_err hi).1
      rw [isP_bad (by rw [hs.bad k hk, hb]), hs.fault k hk hb]
      exact ⟨fun a h => (by cases h), fun e h => by cases h; rfl⟩
    | ok g =>
      obtain ⟨_, h3⟩ := h.1 g hi
      rcases h3 with h3 | h3
      · exact absurd h3 hk
      · rw [h3, bind_ok', bind_ok']
        split
        · exact ⟨fun a h => (by cases h), fun e h => by cases h; rfl⟩
        · exact ⟨fun a h => h, fun e h => by cases h⟩
def pos3 (a : α × Nat × β) : Nat := a.2.1
def sh3 (d : Nat) (a : α × Nat × β) : α × Nat × β := (a.1, a.2.1 + d, a.2.2)
theorem partP_rl (hs : Sim S S' d n z) (k : Nat) (agg : Bool) : Rl S S' d n k pos3 (sh3 d) (partP S k agg) (partP S' (k + d) agg) := by
  unfold partP
  refine (isP_rl hs k [1] (fun _ => by decide)).bind fun small _ => ?_
  refine (termP_rl hs k).bind fun r _ => ?_
  dsimp only
  split
  · exact Rl.ok (Nat.le_refl _) rfl
  · refine (isP_rl hs r.2 [4] (fun _ => by decide)).bind fun o _ => ?_
    split
    · exact Rl.ok (Nat.le_refl _) rfl
    · rw [show r.2 + d + 1 = r.2 + 1 + d by omega]
      split
      · refine ((markP_rl hs (r.2 + 1) 5 (fun _ => by decide)).bind fun k2 _ => ?_).mono (Nat.le_succ _)
        exact Rl.ok (Nat.le_refl _) rfl
      · rw [notBl_eq, notBl_eq]
        refine ((notBl_rl hs (r.2 + 1)).bind fun u _ => ?_).mono (Nat.le_succ _)
        refine (wordP_rl hs (r.2 + 1) [2] (fun _ => by decide)).bind fun q _ => ?_
        refine (markP_rl hs q.2 5 (fun _ => by decide)).bind fun k3 _ => ?_
        exact Rl.ok (Nat.le_refl _) rfl
theorem oneP_rl (hs : Sim S S' d n z) (head : Bool) (k : Nat) (agg : Bool) : Rl S S' d n k pos3 (sh3 d) (oneP head S k agg) (oneP head S' (k + d) agg) := by
  unfold oneP
  split
  · exact partP_rl hs k agg
  · refine (termP_rl hs k).bind fun r _ => ?_
    exact Rl.ok (Nat.le_refl _) rfl
theorem termsGo_rl (hs : Sim S S' d n z) (head : Bool) : ∀ (f k : Nat) (agg : Bool) (acc : List Tm), acc.length ≤ 64 → 65 ≤ f + acc.length → Rl S S' d n k pos3 (sh3 d) (termsGo head S f k agg acc) (termsGo head S' f (k + d) agg acc)
  | 0, k, agg, acc, h1, h2 => by omega
  | f + 1, k, agg, acc, h1, h2 => by
    rw [termsGo, termsGo, show k + d + 1 = k + 1 + d by omega]
    refine ((wantP_rl hs (k + 1) [1, 2, 3] (fun _ => by decide)).bind fun u hu => ?_).mono (Nat.le_succ _)
    split
    · exact Rl.err (Nat.le_refl _) (.inr ⟨(wantP_inv' hu).1, .inr ⟨by decide, by decide, wantP_lt hu (by decide)⟩⟩)
    · refine (oneP_rl hs head (k + 1) agg).bind fun r _ => ?_
      refine (isP_rl hs r.2.1 [6] (fun _ => by decide)).bind fun c _ => ?_
      split
      · exact termsGo_rl hs head f r.2.1 r.2.2 (acc ++ [r.1]) (by simp; omega) (by simp; omega)
      · exact Rl.ok (Nat.le_refl _) rfl
theorem termsP_rl (hs : Sim S S' d n z) (head : Bool) (k : Nat) (agg : Bool) : Rl S S' d n k pos3 (sh3 d) (termsP head S k agg) (termsP head S' (k + d) agg) := by
  unfold termsP
  refine (isP_rl hs k [4] (fun _ => by decide)).bind fun o _ => ?_
  split
  · exact Rl.ok (Nat.le_refl _) rfl
  · refine (termsGo_rl hs head 65 k agg [] (by simp) (by simp)).bind fun r _ => ?_
    refine (markP_rl hs r.2.1 5 (fun _ => by decide)).bind fun k3 _ => ?_
    exact Rl.ok (Nat.le_refl _) rfl
theorem atomP_rl (hs : Sim S S' d n z) (head : Bool) (k : Nat) (agg : Bool) : Rl S S' d n k pos3 (sh3 d) (atomP head S k agg) (atomP head S' (k + d) agg) := by
  unfold atomP
  refine (wordP_rl hs k [1] (fun _ => by decide)).bind fun r _ => ?_
  refine (termsP_rl hs head r.2 agg).bind fun q _ => ?_
  exact Rl.ok (Nat.le_refl _) rfl
theorem cmpP_rl (hs : Sim S S' d n z) (k : Nat) (t : Tm) : Rl S S' d n k (fun a => a.2) (fun a => (a.1, a.2 + d)) (cmpP S k t) (cmpP S' (k + d) t) := by
  unfold cmpP
  rw [show k + d + 1 = k + 1 + d by omega]
  refine (wantP_rl hs k opsK (fun _ => by decide)).bind fun u hu => ?_
  have hc := (wantP_inv' hu).2
  have hx : Rl S S' d n k (fun a => a.2) (fun a => (a.1, a.2 + d)) ((termP S (k + 1)).bind fun r => .ok ((⟨3, ⟨emptyB, []⟩, (S.tok k).kind - 9, t, r.1⟩ : Lm), r.2)) ((termP S' (k + 1 + d)).bind fun r => .ok ((⟨3, ⟨emptyB, []⟩, (S.tok k).kind - 9, t, r.1⟩ : Lm), r.2)) := by
    refine ((termP_rl hs (k + 1)).bind fun r _ => ?_).mono (Nat.le_succ _)
    exact Rl.ok (Nat.le_refl _) rfl
  by_cases hk : ¬ late n k
  · have he : (S'.tok (k + d)).kind = (S.tok k).kind := by
      rcases hs.kind k hk with h | ⟨_, h, _⟩
      · exact h
      · rw [h] at hc; exact absurd hc (by decide)
    rw [he]
    exact hx
  · exact hx.late (Classical.not_not.1 hk)
theorem litP_rl (hs : Sim S S' d n z) (k : Nat) (agg : Bool) : Rl S S' d n k (fun a => a.2) (fun a => (a.1, a.2 + d)) (litP S k agg) (litP S' (k + d) agg) := by
  unfold litP
  refine (isP_rl hs k [9] (fun _ => by decide)).bind fun m _ => ?_
  split
  · rw [show k + d + 1 = k + 1 + d by omega]
    refine ((atomP_rl hs false (k + 1) agg).bind fun r _ => ?_).mono (Nat.le_succ _)
    exact Rl.ok (Nat.le_refl _) rfl
  · refine (isP_rl hs k [1] (fun _ => by decide)).bind fun small _ => ?_
    refine (termP_rl hs k).bind fun r _ => ?_
    dsimp only
    split
    · refine (isP_rl hs r.2 opsK (fun _ => by decide)).bind fun o _ => ?_
      split
      · exact cmpP_rl hs r.2 r.1
      · refine (termsP_rl hs false r.2 agg).bind fun q _ => ?_
        exact Rl.ok (Nat.le_refl _) rfl
    · exact cmpP_rl hs r.2 r.1
theorem bodyGo_rl (hs : Sim S S' d n z) (agg : Bool) : ∀ (f k : Nat) (acc : List Lm), acc.length ≤ 64 → 65 ≤ f + acc.length → Rl S S' d n k (fun a => a.2) (fun a => (a.1, a.2 + d)) (bodyGo S agg f k acc) (bodyGo S' agg f (k + d) acc)
  | 0, k, acc, h1, h2 => by omega
  | f + 1, k, acc, h1, h2 => by
    rw [bodyGo, bodyGo, show k + d + 1 = k + 1 + d by omega]
    refine ((wantP_rl hs (k + 1) [1, 2, 3, 9] (fun _ => by decide)).bind fun u hu => ?_).mono (Nat.le_succ _)
    split
    · exact Rl.err (Nat.le_refl _) (.inr ⟨(wantP_inv' hu).1, .inr ⟨by decide, by decide, wantP_lt hu (by decide)⟩⟩)
    · refine (litP_rl hs (k + 1) agg).bind fun r _ => ?_
      refine (isP_rl hs r.2 [6] (fun _ => by decide)).bind fun c _ => ?_
      split
      · exact bodyGo_rl hs agg f r.2 (acc ++ [r.1]) (by simp; omega) (by simp; omega)
      · exact Rl.ok (Nat.le_refl _) rfl
theorem bodyP_rl (hs : Sim S S' d n z) (k : Nat) (agg : Bool) : Rl S S' d n k (fun a => a.2) (fun a => (a.1, a.2 + d)) (bodyP S k agg) (bodyP S' (k + d) agg) := by
  unfold bodyP
  refine (isP_rl hs k [8] (fun _ => by decide)).bind fun o _ => ?_
  split
  · exact bodyGo_rl hs agg 65 k [] (by simp) (by simp)
  · exact Rl.ok (Nat.le_refl _) rfl
theorem ruleP_rl (hs : Sim S S' d n false) (k : Nat) : Rl S S' d n k pos3 (sh3 d) (ruleP S k) (ruleP S' (k + d)) := by
  unfold ruleP
  refine (atomP_rl hs true k false).bind fun h _ => ?_
  refine (bodyP_rl hs h.2.1 h.2.2).bind fun b _ => ?_
  refine (markP_rl hs b.2 7 (fun h => by cases h)).bind fun k3 _ => ?_
  exact Rl.ok (Nat.le_refl _) rfl
theorem progGo_rl (hs : Sim S S' d n false) : ∀ (f k : Nat) (acc : List Rm), acc.length ≤ 1024 → 1025 ≤ f + acc.length → Rl S S' d n k (fun a => a.2) (fun a => (a.1, a.2 + d)) (progGo S f k acc) (progGo S' f (k + d) acc)
  | 0, k, acc, h1, h2 => by omega
  | f + 1, k, acc, h1, h2 => by
    rw [progGo, progGo]
    refine (isP_rl hs k [0] (fun h => by cases h)).bind fun z _ => ?_
    split
    · exact Rl.ok (Nat.le_refl _) rfl
    · refine (wantP_rl hs k [1] (fun _ => by decide)).bind fun u hu => ?_
      split
      · exact Rl.err (Nat.le_refl _) (.inr ⟨(wantP_inv' hu).1, .inr ⟨by decide, by decide, wantP_lt hu (by decide)⟩⟩)
      · refine (ruleP_rl hs k).bind fun r _ => ?_
        exact progGo_rl hs f r.2.1 (acc ++ [r.1]) (by simp; omega) (by simp; omega)
/-- a rule that ends ahead of a place is read alike, whatever stands there -/
theorem ruleP_in (hs : Sim S S' d n false) {k : Nat} {r : Rm × Nat × Bool} (h : ruleP S k = .ok r) (hn : ∀ j, j < r.2.1 → ¬ late n j) : ruleP S' (k + d) = .ok (r.1, r.2.1 + d, r.2.2) ∧ k < r.2.1 := by
  unfold ruleP at h ⊢
  obtain ⟨a, ha, h⟩ := bind_inv h
  obtain ⟨b, hb, h⟩ := bind_inv h
  obtain ⟨m, hm, h⟩ := bind_inv h
  cases h
  unfold markP at hm
  obtain ⟨u, hw, hm⟩ := bind_inv hm
  cases hm
  try simp only at hn
  obtain ⟨k1, e1⟩ := (atomP_rl hs true k false).1 a ha
  obtain ⟨k2, e2⟩ := (bodyP_rl hs a.2.1 a.2.2).1 b hb
  have k1' : k ≤ a.2.1 := k1
  have k2' : a.2.1 ≤ b.2 := k2
  have hn' : ∀ j, j < b.2 + 1 → ¬ late n j := hn
  have e1 := e1.resolve_left (fun h => hn' a.2.1 (by omega) h)
  have e2 := e2.resolve_left (fun h => hn' b.2 (by omega) h)
  have e3 := ((wantP_rl hs b.2 [7] (fun h => by cases h)).1 u hw).2.resolve_left (fun h => hn' b.2 (by omega) h)
  rw [e1, bind_ok']
  simp only [sh3]
  rw [e2, bind_ok']
  unfold markP
  rw [e3]
  refine ⟨?_, by show k < b.2 + 1; omega⟩
  simp only [bind_ok']
  rw [show b.2 + d + 1 = b.2 + 1 + d by omega]
end
end Go.Proofs.YteecbbnpgmceiaaGreatDoor.R2
/-
  The plain law of reading: long texts, the limits from both sides.
-/
namespace Go.Proofs.YteecbbnpgmceiaaGreatDoor
open Go Go.RowKit Go.Mine
set_option linter.unusedVariables false

section
variable {s : ByteArray}
theorem kindL_at {i : Nat} (hi : i < s.size) (hc : s[i].toNat < 128) : kindL s i = kindR s[i].toNat := by
  unfold kindL
  rw [if_pos hi, decode_ascii s i hi hc]
theorem partL_at {i : Nat} (hi : i < s.size) (hc : s[i].toNat < 128) : partL s i = if isPart s[i].toNat = true then 1 else 0 := by
  unfold partL
  rw [decode_ascii s i hi hc]
  simp [hi]
theorem small_kind {n : Nat} (h : 97 ≤ n ∧ n ≤ 122) : kindR n = 1 ∧ isPart n = true := by
  have hl : letterL n = 1 := by unfold letterL; rw [if_pos (.inl h)]
  unfold kindR isPart
  rw [hl]
  exact ⟨rfl, rfl⟩
/-- a run of letters is a word -/
theorem word_run {i e k : Nat} (hie : i < e) (he : e ≤ s.size) (hl : ∀ (j : Nat) (h : j < s.size), i ≤ j → j < e → s[j].toNat < 128 ∧ isPart s[j].toNat = true) (hk1 : ∀ h : i < s.size, kindR s[i].toNat = k) (hk0 : k ≠ 0)
    (hs : ∀ h : e < s.size, s[e].toNat < 128 ∧ isPart s[e].toNat = false) : wordL s i = (k, e) := by
  have hp : ∀ j, i ≤ j → j < e → partL s j = 1 := fun j h1 h2 => by
    have hj : j < s.size := by omega
    have := hl j hj h1 h2
    rw [partL_at hj this.1, if_pos this.2]
  have hp0 : partL s e = 0 := by
    by_cases h : e < s.size
    · obtain ⟨h1, h2⟩ := hs h
      rw [partL_at h h1, h2]; rfl
    · unfold partL
      rw [if_neg (by rintro ⟨h', _⟩; exact h h')]
  have key : ∀ (n j f : Nat), i ≤ j → j + n = e → n ≤ f → endL s f j = e := by
    intro n
    induction n with
    | zero =>
      intro j f _ h2 _
      have : j = e := by omega
      subst this
      exact endL_stop hp0
    | succ n ih =>
      intro j f h1 h2 h3
      obtain ⟨f', rfl⟩ : ∃ f', f = f' + 1 := ⟨f - 1, by omega⟩
      rw [endL, hp j h1 (by omega), if_neg (by decide)]
      exact ih (j + 1) f' (by omega) (by omega) (by omega)
  have hi : i < s.size := by omega
  have hk : kindL s i = k := by
    have := hl i hi (Nat.le_refl _) hie
    rw [kindL_at hi this.1, hk1 hi]
  unfold wordL
  rw [hk, if_neg hk0, key (e - i) i s.size (Nat.le_refl _) (by omega) (by omega)]
theorem ext_of_drop {i n : Nat} {l r : List UInt8} (h : s.data.toList.drop i = l ++ r) (hn : l.length = n) : s.extract i (i + n) = ⟨l.toArray⟩ := by
  apply ByteArray.ext
  apply Array.ext'
  rw [ext_data, h, Nat.add_sub_cancel_left, List.take_left' hn]
/-- a mark of one byte -/
theorem one_mark {i : Nat} {c : UInt8} {r : List UInt8} {k : Nat} {R : List Tok × Nat × Nat} (h : s.data.toList.drop i = c :: r) (hc : plainB c) (hc2 : c.toNat < 128) (hk0 : kindR c.toNat = 0) (hm : markL (c :: r) = (k, 1)) (hk : k ≠ 0) (hR : TRes s (i + 1) R) : TRes s i (tcons ⟨k, ⟨#[]⟩, i⟩ R) := by
  obtain ⟨hi, hs, _⟩ := drop_cons h
  have hw : (wordL s i).1 = 0 := by
    unfold wordL
    rw [kindL_at hi (by rw [hs]; exact hc2), hs, hk0]; rfl
  exact TRes.ofMark hi (by rw [hs]; exact hc) hw (by rw [h]; exact hm) hk hR
theorem part_plain {c : UInt8} (h : isPart c.toNat = true) : plainB c := by
  unfold plainB
  refine ⟨?_, ?_, ?_, ?_, ?_, ?_⟩ <;> (intro e; rw [e] at h; exact absurd h (by decide))
/-- a word -/
theorem one_word {i n k : Nat} {l r : List UInt8} {R : List Tok × Nat × Nat} (h : s.data.toList.drop i = l ++ r) (hn : l.length = n) (hl : ∀ c ∈ l, c.toNat < 128 ∧ isPart c.toNat = true) (hk : ∃ c l', l = c :: l' ∧ kindR c.toNat = k) (hk0 : k ≠ 0) (hr : ∀ c r', r = c :: r' → c.toNat < 128 ∧ isPart c.toNat = false) (hR : TRes s (i + n) R) : TRes s i (tcons ⟨k, ⟨l.toArray⟩, i⟩ R) := by
  have hlen := congrArg List.length h
  rw [List.length_drop, ← Lib.size_eq, List.length_append, hn] at hlen
  have h0 : 0 < n := by
    obtain ⟨c, l', e, _⟩ := hk
    rw [e] at hn; simp at hn; omega
  have hget : ∀ (j : Nat) (hj : j < s.size), i ≤ j → (l ++ r)[j - i]? = some s[j] := fun j hj hij => by
    rw [← h, List.getElem?_drop, show i + (j - i) = j by omega, List.getElem?_eq_getElem (by rw [← Lib.size_eq]; exact hj)]; rfl
  have hw : wordL s i = (k, i + n) := by
    refine word_run (by omega) (by omega) (fun j hj h1 h2 => ?_) (fun hi => ?_) hk0 (fun he => ?_)
    · have := hget j hj h1
      rw [List.getElem?_append_left (by omega)] at this
      exact hl _ (List.mem_of_getElem? this)
    · obtain ⟨c, l', e, hc⟩ := hk
      have := hget i hi (Nat.le_refl _)
      rw [Nat.sub_self, e] at this
      simp at this
      rw [← this, hc]
    · have := hget (i + n) he (by omega)
      rw [show i + n - i = n by omega, List.getElem?_append_right (by omega), hn, Nat.sub_self] at this
      cases r with
      | nil => simp at this
      | cons c r' =>
        simp at this
        rw [← this]
        exact hr c r' rfl
  have hi : i < s.size := by omega
  have hpl : plainB s[i] := by
    have := hget i hi (Nat.le_refl _)
    rw [Nat.sub_self, List.getElem?_append_left (by omega)] at this
    exact part_plain (hl _ (List.mem_of_getElem? this)).2
  have := TRes.ofWord hi hpl hw hk0 hR
  rw [ext_of_drop h hn] at this
  exact this
end
/-- 'p.', many times -/
def dL : Nat → List UInt8 → List UInt8
  | 0, t => t
  | n + 1, t => 112 :: 46 :: dL n t
theorem dL_len (t : List UInt8) : ∀ n, (dL n t).length = 2 * n + t.length
  | 0 => by simp [dL]
  | n + 1 => by rw [dL, List.length_cons, List.length_cons, dL_len t n]; omega
def dT : Nat → Nat → List Tok
  | _, 0 => []
  | i, n + 1 => ⟨1, ⟨#[112]⟩, i⟩ :: ⟨7, ⟨#[]⟩, i + 1⟩ :: dT (i + 2) n
theorem dT_len : ∀ n i, (dT i n).length = 2 * n
  | 0, i => rfl
  | n + 1, i => by rw [dT, List.length_cons, List.length_cons, dT_len n]; omega
theorem dT_get : ∀ (n i k : Nat), k < n → (dT i n)[2 * k]? = some ⟨1, ⟨#[112]⟩, i + 2 * k⟩ ∧ (dT i n)[2 * k + 1]? = some ⟨7, ⟨#[]⟩, i + 2 * k + 1⟩
  | 0, i, k, h => by omega
  | n + 1, i, 0, h => ⟨rfl, rfl⟩
  | n + 1, i, k + 1, h => by
    have := dT_get n (i + 2) k (by omega)
    rw [dT, show 2 * (k + 1) = 2 * k + 1 + 1 by omega]
    simp only [List.getElem?_cons_succ]
    rw [this.1, this.2, show i + 2 + 2 * k = i + (2 * k + 1 + 1) by omega]
    exact ⟨rfl, rfl⟩
theorem scan_d {s : ByteArray} {t : List UInt8} {R : List Tok × Nat × Nat} : ∀ (m i : Nat), s.data.toList.drop i = dL m t → TRes s (i + 2 * m) R → TRes s i (dT i m ++ R.1, R.2)
  | 0, i, _, hR => hR
  | m + 1, i, h, hR => by
    rw [dL] at h
    obtain ⟨hi, hs, h1⟩ := drop_cons h
    obtain ⟨hi1, hs1, h2⟩ := drop_cons h1
    have ih := scan_d m (i + 2) h2 (by rw [show i + 2 + 2 * m = i + 2 * (m + 1) by omega]; exact hR)
    have a := one_mark (k := 7) h1 ⟨by decide, by decide, by decide, by decide, by decide, by decide⟩ (by decide) (by decide) (by rfl) (by decide) ih
    exact one_word (l := [112]) (n := 1) h rfl (fun c hc => by simp at hc; subst hc; decide) ⟨112, [], rfl, by decide⟩ (by decide) (fun c r' e => by cases e; decide) a
def pM : Rm := ⟨⟨⟨#[112]⟩, []⟩, []⟩
/-- a word and a full stop -/
theorem rule_w {S : Toks} (hb : ∀ k, S.bad k = false) {k a1 a2 : Nat} {x : ByteArray} (hx : ¬ 4096 < x.size) (h1 : S.tok k = ⟨1, x, a1⟩) (h2 : S.tok (k + 1) = ⟨7, ⟨#[]⟩, a2⟩) : ruleP S k = .ok (⟨⟨x, []⟩, []⟩, k + 2, false) := by
  have hw : wordP S k [1] = .ok (x, k + 1) := by
    rw [wordP_yes (hb _) (by rw [h1]; rfl) (by rw [h1]; exact hx), h1]
  unfold ruleP atomP termsP bodyP
  rw [hw, bind_ok', isP_val (hb _), bind_ok', if_pos (by rw [h2]; rfl), bind_ok', bind_ok', isP_val (hb _), bind_ok', if_neg (by rw [h2]; show ¬ ([8] : List Nat).contains 7 = true; decide), bind_ok', markP_yes (hb _) (by rw [h2])]
  rfl
theorem rounds_p {S : Toks} (hb : ∀ k, S.bad k = false) : ∀ (m k f : Nat) (acc : List Rm), acc.length = k → k + m ≤ 1024 → (∀ j, k ≤ j → j < k + m → S.tok (2 * j) = ⟨1, ⟨#[112]⟩, 2 * j⟩ ∧ S.tok (2 * j + 1) = ⟨7, ⟨#[]⟩, 2 * j + 1⟩) →
    progGo S (f + m) (2 * k) acc = progGo S f (2 * (k + m)) (acc ++ List.replicate m pM)
  | 0, k, f, acc, _, _, _ => by simp
  | m + 1, k, f, acc, h1, h2, h3 => by
    obtain ⟨t1, t2⟩ := h3 k (Nat.le_refl _) (by omega)
    rw [show f + (m + 1) = (f + m) + 1 by omega, progGo, isP_val (hb _), bind_ok', if_neg (by rw [t1]; show ¬ ([0] : List Nat).contains 1 = true; decide), wantP_ok (hb _) (by rw [t1]; rfl), bind_ok', if_neg (by omega), rule_w hb (by decide) t1 t2, bind_ok']
    simp only
    rw [show 2 * k + 2 = 2 * (k + 1) by omega]
    have ih := rounds_p hb m (k + 1) f (acc ++ [pM]) (by simp [h1]) (by omega) (fun j hj hj2 => h3 j (by omega) (by omega))
    rw [show k + 1 + m = k + (m + 1) by omega, List.append_assoc] at ih
    exact ih
theorem d_reads {t : List UInt8} {ts : List Tok} {n : Nat} (hn : n = 1024) (ht : t.length ≤ 10) (hR : TRes ⟨(dL n t).toArray⟩ (2 * n) (ts, 0, 0)) :
    readL ⟨(dL n t).toArray⟩ progP = wholeP ⟨dT 0 n ++ ts, 0, 2 * n + t.length⟩ (progGo ⟨dT 0 n ++ ts, 0, 2 * n + t.length⟩ 1 (2 * n) (List.replicate n pM)) := by
  have hsz : (⟨(dL n t).toArray⟩ : ByteArray).size = 2 * n + t.length := by
    show (dL n t).toArray.size = _
    rw [List.size_toArray, dL_len]
  have hsc := scan_d (s := ⟨(dL n t).toArray⟩) n 0 rfl (by rw [Nat.zero_add]; exact hR)
  have hs : scanL ⟨(dL n t).toArray⟩ = (dT 0 n ++ ts, 0, 0) := (scanL_res _).uniq hsc
  have hS : toksOf ⟨(dL n t).toArray⟩ = ⟨dT 0 n ++ ts, 0, 2 * n + t.length⟩ := by
    unfold toksOf
    rw [hs]
    simp only [if_pos, hsz]
  unfold readL
  rw [if_neg (by omega), hS]
  congr 1
  have hb : ∀ k, Toks.bad ⟨dT 0 n ++ ts, 0, 2 * n + t.length⟩ k = false := fun k => by unfold Toks.bad; simp
  have hk : ∀ j, j < n → Toks.tok ⟨dT 0 n ++ ts, 0, 2 * n + t.length⟩ (2 * j) = ⟨1, ⟨#[112]⟩, 2 * j⟩ ∧ Toks.tok ⟨dT 0 n ++ ts, 0, 2 * n + t.length⟩ (2 * j + 1) = ⟨7, ⟨#[]⟩, 2 * j + 1⟩ := fun j hj => by
    obtain ⟨h1, h2⟩ := dT_get n 0 j hj
    have hl := dT_len n 0
    unfold Toks.tok
    simp only [List.getD_eq_getElem?_getD]
    rw [List.getElem?_append_left (by omega), List.getElem?_append_left (by omega), h1, h2, Nat.zero_add]
    exact ⟨rfl, rfl⟩
  have := rounds_p hb n 0 1 [] rfl (by omega) (fun j _ hj => hk j (by omega))
  unfold progP
  rw [Nat.mul_zero, Nat.zero_add, List.nil_append, hn] at this
  rw [hn]
  exact this
theorem dL_drop (t : List UInt8) : ∀ n, (dL n t).drop (2 * n) = t
  | 0 => rfl
  | n + 1 => by rw [dL, show 2 * (n + 1) = 2 * n + 1 + 1 by omega, List.drop_succ_cons, List.drop_succ_cons, dL_drop t n]
theorem d_end {n : Nat} {t : List UInt8} {i : Nat} (h : 2 * n + t.length ≤ i) : TRes ⟨(dL n t).toArray⟩ i ([], 0, 0) := by
  refine TRes.ofEnd ?_
  show ¬ i < (dL n t).toArray.size
  rw [List.size_toArray, dL_len]
  omega
theorem nb (ts : List Tok) (m : Nat) : ∀ k, Toks.bad ⟨ts, 0, m⟩ k = false := fun k => by unfold Toks.bad; simp
section
variable {n : Nat} (hn : n = 1024)
include hn
theorem known_d : readL ⟨(dL n []).toArray⟩ progP = .ok (List.replicate n pM) := by
  rw [d_reads hn (by simp) (d_end (by simp))]
  have hk : Toks.tok ⟨dT 0 n ++ [], 0, 2 * n + 0⟩ (2 * n) = ⟨0, emptyB, 2 * n + 0⟩ := tok_out (by simp [dT_len])
  have hp : progGo ⟨dT 0 n ++ [], 0, 2 * n + 0⟩ 1 (2 * n) (List.replicate n pM) = .ok (List.replicate n pM, 2 * n) := by
    rw [progGo, isP_val (nb _ _ _), bind_ok', hk, if_pos (by rfl)]
  unfold wholeP
  show (progGo ⟨dT 0 n ++ [], 0, 2 * n + 0⟩ 1 (2 * n) (List.replicate n pM)).bind _ = _
  rw [hp, bind_ok', wantP_ok (nb _ _ _) (by simp only; show ([0] : List Nat).contains (Toks.tok ⟨dT 0 n ++ [], 0, 2 * n + 0⟩ (2 * n)).kind = true; rw [hk]; rfl)]
  rfl
theorem known_dx {c : UInt8} {k : Nat} (hc : c.toNat < 128 ∧ isPart c.toNat = true) (hk : kindR c.toNat = k) (hk0 : k ≠ 0) : readL ⟨(dL n [c]).toArray⟩ progP = if k = 1 then .error (81, 2 * n) else .error (80, 2 * n) := by
  have hR := one_word (s := ⟨(dL n [c]).toArray⟩) (i := 2 * n) (l := [c]) (r := []) (n := 1) (k := k) (dL_drop [c] n) rfl (fun x hx => by simp at hx; subst hx; exact hc) ⟨c, [], rfl, hk⟩ hk0 (fun x r' e => by cases e) (d_end (by simp))
  rw [d_reads hn (by simp) hR]
  have hk2 : Toks.tok ⟨dT 0 n ++ [⟨k, ⟨#[c]⟩, 2 * n⟩], 0, 2 * n + 1⟩ (2 * n) = ⟨k, ⟨#[c]⟩, 2 * n⟩ := by
    rw [tok_in (by simp [dT_len])]
    simp only
    rw [List.getElem_append_right (by rw [dT_len]; exact Nat.le_refl _)]
    simp [dT_len]
  have hp : progGo ⟨dT 0 n ++ [⟨k, ⟨#[c]⟩, 2 * n⟩], 0, 2 * n + 1⟩ 1 (2 * n) (List.replicate n pM) = if k = 1 then .error (81, 2 * n) else .error (80, 2 * n) := by
    rw [progGo, isP_val (nb _ _ _), bind_ok', hk2, if_neg (by simpa using hk0)]
    by_cases h1 : k = 1
    · rw [wantP_ok (nb _ _ _) (by rw [hk2, h1]; rfl), bind_ok', if_pos (by rw [List.length_replicate]; exact hn), if_pos h1]
    · rw [wantP_no (nb _ _ _) (by rw [hk2]; simpa using h1), if_neg h1, hk2]; rfl
  unfold wholeP
  show (progGo ⟨dT 0 n ++ [⟨k, ⟨#[c]⟩, 2 * n⟩], 0, 2 * n + 1⟩ 1 (2 * n) (List.replicate n pM)).bind _ = _
  rw [hp]
  split <;> rfl
end
theorem a_part {m : Nat} : ∀ c ∈ List.replicate m (97 : UInt8), c.toNat < 128 ∧ isPart c.toNat = true := fun c hc => by
  rw [List.eq_of_mem_replicate hc]; decide
theorem a_first {m : Nat} (hm : 0 < m) : ∃ c l', List.replicate m (97 : UInt8) = c :: l' ∧ kindR c.toNat = 1 := by
  obtain ⟨m', rfl⟩ : ∃ m', m = m' + 1 := ⟨m - 1, by omega⟩
  exact ⟨97, List.replicate m' 97, List.replicate_succ, by decide⟩
/-- a long word and a full stop -/
theorem known_e {m : Nat} (hm : 0 < m) (hm2 : m ≤ 5000) : readL ⟨(List.replicate m (97 : UInt8) ++ [46]).toArray⟩ progP = if 4096 < m then .error (84, 0) else .ok [⟨⟨⟨(List.replicate m (97 : UInt8)).toArray⟩, []⟩, []⟩] := by
  have hsz : (⟨(List.replicate m (97 : UInt8) ++ [46]).toArray⟩ : ByteArray).size = m + 1 := by
    show (List.replicate m (97 : UInt8) ++ [46]).toArray.size = _
    simp
  have hR1 := one_mark (s := ⟨(List.replicate m (97 : UInt8) ++ [46]).toArray⟩) (i := m) (c := 46) (r := []) (k := 7) (by simp) ⟨by decide, by decide, by decide, by decide, by decide, by decide⟩ (by decide) (by decide) (by rfl) (by decide) (TRes.ofEnd (by rw [hsz]; omega))
  have hR := one_word (s := ⟨(List.replicate m (97 : UInt8) ++ [46]).toArray⟩) (i := 0) (l := List.replicate m (97 : UInt8)) (r := [46]) (n := m) (k := 1) rfl (by simp) a_part (a_first hm) (by decide) (fun c r' e => by cases e; decide) (by rw [Nat.zero_add]; exact hR1)
  have hs := (scanL_res _).uniq hR
  have hS : toksOf ⟨(List.replicate m (97 : UInt8) ++ [46]).toArray⟩ = ⟨[⟨1, ⟨(List.replicate m (97 : UInt8)).toArray⟩, 0⟩, ⟨7, ⟨#[]⟩, m⟩], 0, m + 1⟩ := by
    unfold toksOf
    rw [hs]
    show Toks.mk _ 0 (if (0 : Nat) = 0 then _ else _) = _
    rw [if_pos rfl, hsz]; rfl
  have hx : (⟨(List.replicate m (97 : UInt8)).toArray⟩ : ByteArray).size = m := by
    show (List.replicate m (97 : UInt8)).toArray.size = _
    simp
  unfold readL
  rw [if_neg (by omega), hS]
  generalize (⟨(List.replicate m (97 : UInt8)).toArray⟩ : ByteArray) = x at *
  have hb : ∀ k, Toks.bad ⟨[⟨1, x, 0⟩, ⟨7, ⟨#[]⟩, m⟩], 0, m + 1⟩ k = false := fun k => by unfold Toks.bad; simp
  have h0 : Toks.tok ⟨[⟨1, x, 0⟩, ⟨7, ⟨#[]⟩, m⟩], 0, m + 1⟩ 0 = ⟨1, x, 0⟩ := rfl
  have h1 : Toks.tok ⟨[⟨1, x, 0⟩, ⟨7, ⟨#[]⟩, m⟩], 0, m + 1⟩ 1 = ⟨7, ⟨#[]⟩, m⟩ := rfl
  have h2 : Toks.tok ⟨[⟨1, x, 0⟩, ⟨7, ⟨#[]⟩, m⟩], 0, m + 1⟩ 2 = ⟨0, emptyB, m + 1⟩ := rfl
  generalize (⟨[⟨1, x, 0⟩, ⟨7, ⟨#[]⟩, m⟩], 0, m + 1⟩ : Toks) = S at *
  unfold progP wholeP
  rw [progGo, isP_val (hb _), bind_ok', if_neg (by rw [h0]; show ¬ ([0] : List Nat).contains 1 = true; decide), wantP_ok (hb _) (by rw [h0]; rfl), bind_ok', if_neg (by decide)]
  by_cases hl : 4096 < m
  · rw [if_pos hl]
    have : ruleP S 0 = .error (84, 0) := by
      unfold ruleP atomP
      rw [wordP_long (hb _) (by rw [h0]; rfl) (by rw [h0]; show 4096 < x.size; omega), h0]; rfl
    rw [this]; rfl
  · rw [if_neg hl, rule_w hb (by omega) h0 h1, bind_ok']
    simp only [List.nil_append]
    rw [progGo, isP_val (hb _), bind_ok', if_pos (by rw [h2]; rfl), bind_ok', wantP_ok (hb _) (by simp only; rw [h2]; rfl)]; rfl
theorem flat_q1 : ∀ {l : List UInt8}, (∀ c ∈ l, q1 c = [c]) → l.flatMap q1 = l
  | [], _ => rfl
  | c :: l, h => by rw [List.flatMap_cons, h c (List.mem_cons_self ..), flat_q1 (fun x hx => h x (List.mem_cons_of_mem _ hx))]; rfl
/-- a long text in quotes -/
theorem known_q {m : Nat} {l : List UInt8} (hl : l.length = m) (hm : 4096 < m) (hm2 : m ≤ 5000) (hq : ∀ c ∈ l, q1 c = [c]) : readL ⟨([112, 40, 34] ++ l ++ [34, 41, 46]).toArray⟩ progP = .error (84, 2) := by
  obtain ⟨s, hs⟩ : ∃ s : ByteArray, s = ⟨([112, 40, 34] ++ l ++ [34, 41, 46]).toArray⟩ := ⟨_, rfl⟩
  have hd : s.data.toList = 112 :: 40 :: 34 :: (l ++ 34 :: [41, 46]) := by rw [hs]; simp
  rw [← hs]
  have hsz : s.size = m + 6 := by
    rw [Lib.size_eq, hd]; simp [hl]
  have d0 : s.data.toList.drop 0 = [112] ++ 40 :: 34 :: (l ++ 34 :: [41, 46]) := hd
  have d1 : s.data.toList.drop 1 = 40 :: 34 :: (l ++ 34 :: [41, 46]) := by rw [hd]; rfl
  have d2 : s.data.toList.drop 2 = 34 :: (l ++ 34 :: [41, 46]) := by rw [hd]; rfl
  have d3 : s.data.toList.drop 3 = l.flatMap q1 ++ 34 :: [41, 46] := by rw [hd, flat_q1 hq]; rfl
  have hqe := quoteE_back d3
  obtain ⟨h2i, h2c, _⟩ := drop_cons d2
  obtain ⟨R, hR⟩ : ∃ R, TRes s (3 + (l.flatMap q1).length + 1) R := ⟨_, _, Nat.lt_succ_self _, rfl⟩
  have r2 := TRes.ofQuote h2i h2c hqe hR
  have r1 := one_mark (k := 4) d1 ⟨by decide, by decide, by decide, by decide, by decide, by decide⟩ (by decide) (by decide) (by rfl) (by decide) r2
  have r0 := one_word (k := 1) (n := 1) (l := [112]) d0 rfl (fun c hc => by simp at hc; subst hc; decide) ⟨112, [], rfl, by decide⟩ (by decide) (fun c r' e => by cases e; decide) r1
  have hsc := (scanL_res s).uniq r0
  have hts : (toksOf s).ts = ⟨1, ⟨#[112]⟩, 0⟩ :: ⟨4, ⟨#[]⟩, 1⟩ :: ⟨3, ⟨l.toArray⟩, 2⟩ :: R.1 := by
    show (scanL s).1 = _
    rw [hsc]; rfl
  have h0 : (toksOf s).tok 0 = ⟨1, ⟨#[112]⟩, 0⟩ := by unfold Toks.tok; rw [hts]; rfl
  have h1 : (toksOf s).tok 1 = ⟨4, ⟨#[]⟩, 1⟩ := by unfold Toks.tok; rw [hts]; rfl
  have h2 : (toksOf s).tok 2 = ⟨3, ⟨l.toArray⟩, 2⟩ := by unfold Toks.tok; rw [hts]; rfl
  have hb : ∀ k, k < 3 → (toksOf s).bad k = false := fun k hk => not_bad (by rw [hts]; simp only [List.length_cons]; omega)
  have hx : (⟨l.toArray⟩ : ByteArray).size = m := by show l.toArray.size = _; simp [hl]
  unfold readL
  rw [if_neg (by omega)]
  generalize toksOf s = S at *
  have hr : ruleP S 0 = .error (84, 2) := by
    unfold ruleP atomP termsP
    rw [wordP_yes (hb _ (by decide)) (by rw [h0]; rfl) (by rw [h0]; show ¬ 4096 < (⟨#[112]⟩ : ByteArray).size; decide), bind_ok']
    simp only [Nat.zero_add]
    rw [isP_val (hb _ (by decide)), bind_ok', if_neg (by rw [h1]; decide), termsGo, wantP_ok (hb _ (by decide)) (by rw [h2]; rfl), bind_ok', if_neg (by decide)]
    have ho : oneP true S (1 + 1) false = .error (84, 2) := by
      unfold oneP partP
      rw [if_pos rfl, isP_val (hb _ (by decide)), bind_ok']
      have ht : termP S (1 + 1) = .error (84, 2) := by
        unfold termP
        rw [isP_val (hb _ (by decide)), bind_ok', if_neg (by rw [h2]; show ¬ ([2] : List Nat).contains 3 = true; decide), wordP_long (hb _ (by decide)) (by rw [h2]; rfl) (by rw [h2]; show 4096 < (⟨l.toArray⟩ : ByteArray).size; omega), h2]; rfl
      rw [ht]; rfl
    rw [ho]; rfl
  unfold progP wholeP
  rw [progGo, isP_val (hb _ (by decide)), bind_ok', if_neg (by rw [h0]; decide), wantP_ok (hb _ (by decide)) (by rw [h0]; rfl), bind_ok', if_neg (by decide), hr]; rfl
end Go.Proofs.YteecbbnpgmceiaaGreatDoor
