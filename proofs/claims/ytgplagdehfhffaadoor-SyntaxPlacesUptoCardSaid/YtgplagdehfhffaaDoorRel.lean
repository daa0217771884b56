/-
  The plain law of reading: two rows of tokens that are alike ahead of a place are read alike ahead of it.
-/
import Derived.Test.YtgplagdehfhffaaDoorSmallP
namespace Go.Proofs.YtgplagdehfhffaaDoor
open Go Go.RowKit Go.Mine
set_option linter.unusedVariables false

/-- ahead of token n the rows are alike, the second's by d tokens later (z: but that a full stop may stand where the first one ends) -/
structure Sim (S S' : Toks) (d n : Nat) (z : Bool) : Prop where
  kind : ∀ k, k < n → (S'.tok (k + d)).kind = (S.tok k).kind ∨ (z = true ∧ (S.tok k).kind = 0 ∧ (S'.tok (k + d)).kind = 7)
  text : ∀ k, k < n → (S'.tok (k + d)).text = (S.tok k).text
  bad : ∀ k, k < n → S'.bad (k + d) = S.bad k
  fault : ∀ k, k < n → S.bad k = true → S'.fault = S.fault
/-- which errors there are at a token -/
def Ec (S : Toks) (j c : Nat) : Prop := (c = S.fault ∧ S.bad j = true) ∨ (S.bad j = false ∧ (c = 80 ∨ (81 ≤ c ∧ c ≤ 84 ∧ j < S.ts.length)))
theorem Ec.ne {S : Toks} {j c : Nat} (h : Ec S j c) : c ≠ 0 := by
  rcases h with ⟨h, hb⟩ | ⟨_, h | h⟩
  · unfold Toks.bad at hb
    simp at hb
    omega
  · omega
  · omega
def Rl (S S' : Toks) (d n k : Nat) {α : Type} (pos : α → Nat) (sh : α → α) (r r' : PR α) : Prop :=
  (∀ a, r = .ok a → k ≤ pos a ∧ (n ≤ pos a ∨ r' = .ok (sh a))) ∧
  ∀ e, r = .error e → ∃ j, k ≤ j ∧ e.2 = (S.tok j).at_ ∧ Ec S j e.1 ∧ (n ≤ j ∨ r' = .error (e.1, (S'.tok (j + d)).at_))
section
variable {S S' : Toks} {d n k : Nat} {z : Bool} {α β : Type} {pos : α → Nat} {sh : α → α} {pos2 : β → Nat} {sh2 : β → β} {r r' : PR α}
theorem Rl.bind {f f' : α → PR β} (h : Rl S S' d n k pos sh r r') (hf : ∀ a, r = .ok a → Rl S S' d n (pos a) pos2 sh2 (f a) (f' (sh a))) : Rl S S' d n k pos2 sh2 (r.bind f) (r'.bind f') := by
  cases hr : r with
  | error e =>
    refine ⟨fun a h => (by cases h), fun e2 h2 => ?_⟩
    cases h2
    obtain ⟨j, h1, h2, hc, h3⟩ := h.2 e hr
    refine ⟨j, h1, h2, hc, ?_⟩
    rcases h3 with h3 | h3
    · exact .inl h3
    · exact .inr (by rw [h3]; rfl)
  | ok a =>
    obtain ⟨h1, h2⟩ := h.1 a hr
    have hfa := hf a hr
    rw [bind_ok']
    constructor
    · intro b hb
      obtain ⟨h3, h4⟩ := hfa.1 b hb
      refine ⟨Nat.le_trans h1 h3, ?_⟩
      rcases h2 with h2 | h2
      · exact .inl (Nat.le_trans h2 h3)
      · rcases h4 with h4 | h4
        · exact .inl h4
        · exact .inr (by rw [h2, bind_ok']; exact h4)
    · intro e he
      obtain ⟨j, h3, h4, hc, h5⟩ := hfa.2 e he
      refine ⟨j, Nat.le_trans h1 h3, h4, hc, ?_⟩
      rcases h2 with h2 | h2
      · exact .inl (Nat.le_trans h2 h3)
      · rcases h5 with h5 | h5
        · exact .inl h5
        · exact .inr (by rw [h2, bind_ok']; exact h5)
theorem Rl.ok {a a' : α} (hk : k ≤ pos a) (ha : a' = sh a) : Rl S S' d n k pos sh (.ok a) (.ok a') := by
  subst ha
  exact ⟨fun b hb => by cases hb; exact ⟨hk, .inr rfl⟩, fun e he => by cases he⟩
theorem Rl.err {c j : Nat} (hk : k ≤ j) (hc : Ec S j c) : Rl S S' d n k pos sh (.error (c, (S.tok j).at_)) (.error (c, (S'.tok (j + d)).at_)) :=
  ⟨fun b hb => (by cases hb), fun e he => by cases he; exact ⟨j, hk, rfl, hc, .inr rfl⟩⟩
theorem Rl.mono {k' : Nat} (h : Rl S S' d n k pos sh r r') (hk : k' ≤ k) : Rl S S' d n k' pos sh r r' :=
  ⟨fun a ha => ⟨Nat.le_trans hk (h.1 a ha).1, (h.1 a ha).2⟩, fun e he => by obtain ⟨j, h1, h2, hc, h3⟩ := h.2 e he; exact ⟨j, Nat.le_trans hk h1, h2, hc, h3⟩⟩
theorem Rl.prim (hp : ∀ a, r = .ok a → k ≤ pos a) (he : ∀ e, r = .error e → e.2 = (S.tok k).at_ ∧ Ec S k e.1)
    (hs : k < n → (∀ a, r = .ok a → r' = .ok (sh a)) ∧ ∀ e, r = .error e → r' = .error (e.1, (S'.tok (k + d)).at_)) : Rl S S' d n k pos sh r r' := by
  by_cases hk : k < n
  · exact ⟨fun a ha => ⟨hp a ha, .inr ((hs hk).1 a ha)⟩, fun e h => ⟨k, Nat.le_refl _, (he e h).1, (he e h).2, .inr ((hs hk).2 e h)⟩⟩
  · exact ⟨fun a ha => ⟨hp a ha, .inl (by have := hp a ha; omega)⟩, fun e h => ⟨k, Nat.le_refl _, (he e h).1, (he e h).2, .inl (by omega)⟩⟩
theorem Sim.cont (hs : Sim S S' d n z) {k : Nat} (hk : k < n) {ks : List Nat} (hz : z = true → ks.contains 0 = false ∧ ks.contains 7 = false) : ks.contains (S'.tok (k + d)).kind = ks.contains (S.tok k).kind := by
  rcases hs.kind k hk with h | ⟨h1, h2, h3⟩
  · rw [h]
  · rw [h2, h3, (hz h1).1, (hz h1).2]
theorem Rl.late {r'' : PR α} (hn : n ≤ k) (h : Rl S S' d n k pos sh r r'') : Rl S S' d n k pos sh r r' :=
  ⟨fun a ha => ⟨(h.1 a ha).1, .inl (Nat.le_trans hn (h.1 a ha).1)⟩, fun e he => by obtain ⟨j, h1, h2, hc, _⟩ := h.2 e he; exact ⟨j, h1, h2, hc, .inl (Nat.le_trans hn h1)⟩⟩
theorem isP_rl (hs : Sim S S' d n z) (k : Nat) (ks : List Nat) (hz : z = true → ks.contains 0 = false ∧ ks.contains 7 = false) : Rl S S' d n k (fun _ => k) (fun b => b) (isP S k ks) (isP S' (k + d) ks) := by
  refine Rl.prim (fun _ _ => Nat.le_refl _) (fun e h => by obtain ⟨h1, rfl⟩ := isP_err h; exact ⟨rfl, .inl ⟨rfl, h1⟩⟩) fun hk => ?_
  have h1 := hs.cont hk hz
  have h2 := hs.bad k hk
  cases hb : S.bad k with
  | true =>
    have h3 := hs.fault k hk hb
    rw [isP_bad hb, isP_bad (by rw [h2, hb]), h3]
    exact ⟨fun a h => (by cases h), fun e h => by cases h; rfl⟩
  | false =>
    rw [isP_val hb, isP_val (by rw [h2, hb]), h1]
    exact ⟨fun a h => h, fun e h => by cases h⟩
theorem wantP_inv' {S : Toks} {k : Nat} {ks : List Nat} {u : Unit} (h : wantP S k ks = .ok u) : S.bad k = false ∧ ks.contains (S.tok k).kind = true := by
  cases hb : S.bad k with
  | true => rw [wantP_bad hb] at h; cases h
  | false =>
    cases hc : ks.contains (S.tok k).kind with
    | false => rw [wantP_no hb hc] at h; cases h
    | true => exact ⟨rfl, rfl⟩
theorem wantP_lt {S : Toks} {k : Nat} {ks : List Nat} {u : Unit} (h : wantP S k ks = .ok u) (h0 : ks.contains 0 = false) : k < S.ts.length := by
  by_cases hk : k < S.ts.length
  · exact hk
  · have := (wantP_inv' h).2
    rw [tok_out (by omega)] at this
    rw [h0] at this; cases this
theorem wantP_rl (hs : Sim S S' d n z) (k : Nat) (ks : List Nat) (hz : z = true → ks.contains 0 = false ∧ ks.contains 7 = false) : Rl S S' d n k (fun _ => k) (fun b => b) (wantP S k ks) (wantP S' (k + d) ks) := by
  unfold wantP
  refine (isP_rl hs k ks hz).bind fun b hb => ?_
  split
  · exact Rl.ok (Nat.le_refl _) rfl
  · exact Rl.err (Nat.le_refl _) (.inr ⟨(isP_ok hb).1, .inl rfl⟩)
theorem wordP_rl (hs : Sim S S' d n z) (k : Nat) (ks : List Nat) (hz : z = true → ks.contains 0 = false ∧ ks.contains 7 = false) : Rl S S' d n k (fun a => a.2) (fun a => (a.1, a.2 + d)) (wordP S k ks) (wordP S' (k + d) ks) := by
  have e0 : ∀ e, wordP S k ks = .error e → e.2 = (S.tok k).at_ ∧ Ec S k e.1 := by
    intro e h
    cases hb : S.bad k with
    | true => rw [wordP_bad hb] at h; cases h; exact ⟨rfl, .inl ⟨rfl, hb⟩⟩
    | false =>
      cases hc : ks.contains (S.tok k).kind with
      | false => rw [wordP_no hb hc] at h; cases h; exact ⟨rfl, .inr ⟨hb, .inl rfl⟩⟩
      | true =>
        by_cases hl : 4096 < (S.tok k).text.size
        · rw [wordP_long hb hc hl] at h; cases h
          refine ⟨rfl, .inr ⟨hb, .inr ⟨(by decide : 81 ≤ 84), (by decide : 84 ≤ 84), ?_⟩⟩⟩
          by_cases hk : k < S.ts.length
          · exact hk
          · rw [tok_out (by omega)] at hl; exact absurd hl (by show ¬ 4096 < emptyB.size; decide)
        · rw [wordP_yes hb hc hl] at h; cases h
  refine Rl.prim (fun a h => by obtain ⟨_, _, _, rfl⟩ := wordP_ok h; simp) e0 fun hk => ?_
  have h1 := hs.cont hk hz
  have h2 := hs.bad k hk
  have h3 := hs.text k hk
  cases hb : S.bad k with
  | true =>
    have h4 := hs.fault k hk hb
    rw [wordP_bad hb, wordP_bad (by rw [h2, hb]), h4]
    exact ⟨fun a h => (by cases h), fun e h => by cases h; rfl⟩
  | false =>
    have hb' : S'.bad (k + d) = false := by rw [h2, hb]
    cases hc : ks.contains (S.tok k).kind with
    | false =>
      rw [wordP_no hb hc, wordP_no hb' (by rw [h1]; exact hc)]
      exact ⟨fun a h => (by cases h), fun e h => by cases h; rfl⟩
    | true =>
      by_cases hl : 4096 < (S.tok k).text.size
      · rw [wordP_long hb hc hl, wordP_long hb' (by rw [h1]; exact hc) (by rw [h3]; exact hl)]
        exact ⟨fun a h => (by cases h), fun e h => by cases h; rfl⟩
      · rw [wordP_yes hb hc hl, wordP_yes hb' (by rw [h1]; exact hc) (by rw [h3]; exact hl), h3]
        exact ⟨fun a h => by cases h; rw [show k + d + 1 = k + 1 + d by omega], fun e h => by cases h⟩
theorem markP_rl (hs : Sim S S' d n z) (k c : Nat) (hz : z = true → ([c] : List Nat).contains 0 = false ∧ ([c] : List Nat).contains 7 = false) : Rl S S' d n k (fun a => a) (fun a => a + d) (markP S k c) (markP S' (k + d) c) := by
  unfold markP
  refine (wantP_rl hs k [c] hz).bind fun b _ => ?_
  exact Rl.ok (Nat.le_succ _) (by omega)
theorem termP_rl (hs : Sim S S' d n z) (k : Nat) : Rl S S' d n k (fun a => a.2) (fun a => (a.1, a.2 + d)) (termP S k) (termP S' (k + d)) := by
  unfold termP
  refine (isP_rl hs k [2] (fun _ => by decide)).bind fun g _ => ?_
  split
  · refine (wordP_rl hs k [2] (fun _ => by decide)).bind fun r _ => ?_
    exact Rl.ok (Nat.le_refl _) rfl
  · refine (wordP_rl hs k [1, 3] (fun _ => by decide)).bind fun r _ => ?_
    exact Rl.ok (Nat.le_refl _) rfl
def notBl (S : Toks) (k : Nat) : PR Unit := (isP S k [2]).bind fun g => if g = true ∧ (S.tok k).text = blankB then .error (80, (S.tok k).at_) else .ok ()
theorem notBl_eq (S : Toks) (k : Nat) (x : PR β) : ((isP S k [2]).bind fun g => if g = true ∧ (S.tok k).text = blankB then .error (80, (S.tok k).at_) else x) = (notBl S k).bind fun _ => x := by
  unfold notBl
  cases isP S k [2] with
  | error e => rfl
  | ok g =>
    simp only [bind_ok']
    split
    · rfl
    · rfl
theorem notBl_rl (hs : Sim S S' d n z) (k : Nat) : Rl S S' d n k (fun _ => k) (fun b => b) (notBl S k) (notBl S' (k + d)) := by
  refine Rl.prim (fun _ _ => Nat.le_refl _) (fun e h => ?_) fun hk => ?_
  · unfold notBl at h
    cases hi : isP S k [2] with
    | error x =>
      rw [hi] at h; cases h
      obtain ⟨h1, rfl⟩ := isP_err hi
      exact ⟨rfl, .inl ⟨rfl, h1⟩⟩
    | ok g =>
      rw [hi, bind_ok'] at h
      split at h
      · cases h; exact ⟨rfl, .inr ⟨(isP_ok hi).1, .inl rfl⟩⟩
      · cases h
  · have h := isP_rl hs k [2] (fun _ => by decide)
    unfold notBl
    rw [hs.text k hk]
    cases hi : isP S k [2] with
    | error x =>
      rw [(isP_err hi).2]
      have hb := (isP_err hi).1
      rw [isP_bad (by rw [hs.bad k hk, hb]), hs.fault k hk hb]
      exact ⟨fun a h => (by cases h), fun e h => by cases h; rfl⟩
    | ok g =>
      obtain ⟨_, h3⟩ := h.1 g hi
      rcases h3 with h3 | h3
      · exact absurd hk (Nat.not_lt.2 h3)
      · rw [h3, bind_ok', bind_ok']
        split
        · exact ⟨fun a h => (by cases h), fun e h => by cases h; rfl⟩
        · exact ⟨fun a h => h, fun e h => by cases h⟩
def pos3 (a : α × Nat × β) : Nat := a.2.1
def sh3 (d : Nat) (a : α × Nat × β) : α × Nat × β := (a.1, a.2.1 + d, a.2.2)
theorem partP_rl (hs : Sim S S' d n z) (k : Nat) (agg : Bool) : Rl S S' d n k pos3 (sh3 d) (partP S k agg) (partP S' (k + d) agg) := by
  unfold partP
  refine (isP_rl hs k [1] (fun _ => by decide)).bind fun small _ => ?_
  refine (termP_rl hs k).bind fun r _ => ?_
  dsimp only
  split
  · exact Rl.ok (Nat.le_refl _) rfl
  · refine (isP_rl hs r.2 [4] (fun _ => by decide)).bind fun o _ => ?_
    split
    · exact Rl.ok (Nat.le_refl _) rfl
    · rw [show r.2 + d + 1 = r.2 + 1 + d by omega]
      split
      · refine ((markP_rl hs (r.2 + 1) 5 (fun _ => by decide)).bind fun k2 _ => ?_).mono (Nat.le_succ _)
        exact Rl.ok (Nat.le_refl _) rfl
      · rw [notBl_eq, notBl_eq]
        refine ((notBl_rl hs (r.2 + 1)).bind fun u _ => ?_).mono (Nat.le_succ _)
        refine (wordP_rl hs (r.2 + 1) [2] (fun _ => by decide)).bind fun q _ => ?_
        refine (markP_rl hs q.2 5 (fun _ => by decide)).bind fun k3 _ => ?_
        exact Rl.ok (Nat.le_refl _) rfl
theorem oneP_rl (hs : Sim S S' d n z) (head : Bool) (k : Nat) (agg : Bool) : Rl S S' d n k pos3 (sh3 d) (oneP head S k agg) (oneP head S' (k + d) agg) := by
  unfold oneP
  split
  · exact partP_rl hs k agg
  · refine (termP_rl hs k).bind fun r _ => ?_
    exact Rl.ok (Nat.le_refl _) rfl
theorem termsGo_rl (hs : Sim S S' d n z) (head : Bool) : ∀ (f k : Nat) (agg : Bool) (acc : List Tm), acc.length ≤ 64 → 65 ≤ f + acc.length → Rl S S' d n k pos3 (sh3 d) (termsGo head S f k agg acc) (termsGo head S' f (k + d) agg acc)
  | 0, k, agg, acc, h1, h2 => by omega
  | f + 1, k, agg, acc, h1, h2 => by
    rw [termsGo, termsGo, show k + d + 1 = k + 1 + d by omega]
    refine ((wantP_rl hs (k + 1) [1, 2, 3] (fun _ => by decide)).bind fun u hu => ?_).mono (Nat.le_succ _)
    split
    · exact Rl.err (Nat.le_refl _) (.inr ⟨(wantP_inv' hu).1, .inr ⟨by decide, by decide, wantP_lt hu (by decide)⟩⟩)
    · refine (oneP_rl hs head (k + 1) agg).bind fun r _ => ?_
      refine (isP_rl hs r.2.1 [6] (fun _ => by decide)).bind fun c _ => ?_
      split
      · exact termsGo_rl hs head f r.2.1 r.2.2 (acc ++ [r.1]) (by simp; omega) (by simp; omega)
      · exact Rl.ok (Nat.le_refl _) rfl
theorem termsP_rl (hs : Sim S S' d n z) (head : Bool) (k : Nat) (agg : Bool) : Rl S S' d n k pos3 (sh3 d) (termsP head S k agg) (termsP head S' (k + d) agg) := by
  unfold termsP
  refine (isP_rl hs k [4] (fun _ => by decide)).bind fun o _ => ?_
  split
  · exact Rl.ok (Nat.le_refl _) rfl
  · refine (termsGo_rl hs head 65 k agg [] (by simp) (by simp)).bind fun r _ => ?_
    refine (markP_rl hs r.2.1 5 (fun _ => by decide)).bind fun k3 _ => ?_
    exact Rl.ok (Nat.le_refl _) rfl
theorem atomP_rl (hs : Sim S S' d n z) (head : Bool) (k : Nat) (agg : Bool) : Rl S S' d n k pos3 (sh3 d) (atomP head S k agg) (atomP head S' (k + d) agg) := by
  unfold atomP
  refine (wordP_rl hs k [1] (fun _ => by decide)).bind fun r _ => ?_
  refine (termsP_rl hs head r.2 agg).bind fun q _ => ?_
  exact Rl.ok (Nat.le_refl _) rfl
theorem cmpP_rl (hs : Sim S S' d n z) (k : Nat) (t : Tm) : Rl S S' d n k (fun a => a.2) (fun a => (a.1, a.2 + d)) (cmpP S k t) (cmpP S' (k + d) t) := by
  unfold cmpP
  rw [show k + d + 1 = k + 1 + d by omega]
  refine (wantP_rl hs k opsK (fun _ => by decide)).bind fun u hu => ?_
  have hc := (wantP_inv' hu).2
  have hx : Rl S S' d n k (fun a => a.2) (fun a => (a.1, a.2 + d)) ((termP S (k + 1)).bind fun r => .ok ((⟨3, ⟨emptyB, []⟩, (S.tok k).kind - 9, t, r.1⟩ : Lm), r.2)) ((termP S' (k + 1 + d)).bind fun r => .ok ((⟨3, ⟨emptyB, []⟩, (S.tok k).kind - 9, t, r.1⟩ : Lm), r.2)) := by
    refine ((termP_rl hs (k + 1)).bind fun r _ => ?_).mono (Nat.le_succ _)
    exact Rl.ok (Nat.le_refl _) rfl
  by_cases hk : k < n
  · have he : (S'.tok (k + d)).kind = (S.tok k).kind := by
      rcases hs.kind k hk with h | ⟨_, h, _⟩
      · exact h
      · rw [h] at hc; exact absurd hc (by decide)
    rw [he]
    exact hx
  · exact hx.late (Nat.not_lt.1 hk)
theorem litP_rl (hs : Sim S S' d n z) (k : Nat) (agg : Bool) : Rl S S' d n k (fun a => a.2) (fun a => (a.1, a.2 + d)) (litP S k agg) (litP S' (k + d) agg) := by
  unfold litP
  refine (isP_rl hs k [9] (fun _ => by decide)).bind fun m _ => ?_
  split
  · rw [show k + d + 1 = k + 1 + d by omega]
    refine ((atomP_rl hs false (k + 1) agg).bind fun r _ => ?_).mono (Nat.le_succ _)
    exact Rl.ok (Nat.le_refl _) rfl
  · refine (isP_rl hs k [1] (fun _ => by decide)).bind fun small _ => ?_
    refine (termP_rl hs k).bind fun r _ => ?_
    dsimp only
    split
    · refine (isP_rl hs r.2 opsK (fun _ => by decide)).bind fun o _ => ?_
      split
      · exact cmpP_rl hs r.2 r.1
      · refine (termsP_rl hs false r.2 agg).bind fun q _ => ?_
        exact Rl.ok (Nat.le_refl _) rfl
    · exact cmpP_rl hs r.2 r.1
theorem bodyGo_rl (hs : Sim S S' d n z) (agg : Bool) : ∀ (f k : Nat) (acc : List Lm), acc.length ≤ 64 → 65 ≤ f + acc.length → Rl S S' d n k (fun a => a.2) (fun a => (a.1, a.2 + d)) (bodyGo S agg f k acc) (bodyGo S' agg f (k + d) acc)
  | 0, k, acc, h1, h2 => by omega
  | f + 1, k, acc, h1, h2 => by
    rw [bodyGo, bodyGo, show k + d + 1 = k + 1 + d by omega]
    refine ((wantP_rl hs (k + 1) [1, 2, 3, 9] (fun _ => by decide)).bind fun u hu => ?_).mono (Nat.le_succ _)
    split
    · exact Rl.err (Nat.le_refl _) (.inr ⟨(wantP_inv' hu).1, .inr ⟨by decide, by decide, wantP_lt hu (by decide)⟩⟩)
    · refine (litP_rl hs (k + 1) agg).bind fun r _ => ?_
      refine (isP_rl hs r.2 [6] (fun _ => by decide)).bind fun c _ => ?_
      split
      · exact bodyGo_rl hs agg f r.2 (acc ++ [r.1]) (by simp; omega) (by simp; omega)
      · exact Rl.ok (Nat.le_refl _) rfl
theorem bodyP_rl (hs : Sim S S' d n z) (k : Nat) (agg : Bool) : Rl S S' d n k (fun a => a.2) (fun a => (a.1, a.2 + d)) (bodyP S k agg) (bodyP S' (k + d) agg) := by
  unfold bodyP
  refine (isP_rl hs k [8] (fun _ => by decide)).bind fun o _ => ?_
  split
  · exact bodyGo_rl hs agg 65 k [] (by simp) (by simp)
  · exact Rl.ok (Nat.le_refl _) rfl
theorem ruleP_rl (hs : Sim S S' d n false) (k : Nat) : Rl S S' d n k pos3 (sh3 d) (ruleP S k) (ruleP S' (k + d)) := by
  unfold ruleP
  refine (atomP_rl hs true k false).bind fun h _ => ?_
  refine (bodyP_rl hs h.2.1 h.2.2).bind fun b _ => ?_
  refine (markP_rl hs b.2 7 (fun h => by cases h)).bind fun k3 _ => ?_
  exact Rl.ok (Nat.le_refl _) rfl
theorem progGo_rl (hs : Sim S S' d n false) : ∀ (f k : Nat) (acc : List Rm), acc.length ≤ 1024 → 1025 ≤ f + acc.length → Rl S S' d n k (fun a => a.2) (fun a => (a.1, a.2 + d)) (progGo S f k acc) (progGo S' f (k + d) acc)
  | 0, k, acc, h1, h2 => by omega
  | f + 1, k, acc, h1, h2 => by
    rw [progGo, progGo]
    refine (isP_rl hs k [0] (fun h => by cases h)).bind fun z _ => ?_
    split
    · exact Rl.ok (Nat.le_refl _) rfl
    · refine (wantP_rl hs k [1] (fun _ => by decide)).bind fun u hu => ?_
      split
      · exact Rl.err (Nat.le_refl _) (.inr ⟨(wantP_inv' hu).1, .inr ⟨by decide, by decide, wantP_lt hu (by decide)⟩⟩)
      · refine (ruleP_rl hs k).bind fun r _ => ?_
        exact progGo_rl hs f r.2.1 (acc ++ [r.1]) (by simp; omega) (by simp; omega)
/-- a rule that ends ahead of a place is read alike, whatever stands there -/
theorem ruleP_in (hs : Sim S S' d n false) {k : Nat} {r : Rm × Nat × Bool} (h : ruleP S k = .ok r) (hn : r.2.1 ≤ n) : ruleP S' (k + d) = .ok (r.1, r.2.1 + d, r.2.2) ∧ k < r.2.1 := by
  unfold ruleP at h ⊢
  obtain ⟨a, ha, h⟩ := bind_inv h
  obtain ⟨b, hb, h⟩ := bind_inv h
  obtain ⟨m, hm, h⟩ := bind_inv h
  cases h
  unfold markP at hm
  obtain ⟨u, hw, hm⟩ := bind_inv hm
  cases hm
  simp only at hn
  obtain ⟨k1, e1⟩ := (atomP_rl hs true k false).1 a ha
  obtain ⟨k2, e2⟩ := (bodyP_rl hs a.2.1 a.2.2).1 b hb
  have k1' : k ≤ a.2.1 := k1
  have k2' : a.2.1 ≤ b.2 := k2
  have hn' : b.2 + 1 ≤ n := hn
  have e1 := e1.resolve_left (fun h => by have h' : n ≤ a.2.1 := h; omega)
  have e2 := e2.resolve_left (fun h => by have h' : n ≤ b.2 := h; omega)
  have e3 := ((wantP_rl hs b.2 [7] (fun h => by cases h)).1 u hw).2.resolve_left (fun h => by have h' : n ≤ b.2 := h; omega)
  rw [e1, bind_ok']
  simp only [sh3]
  rw [e2, bind_ok']
  unfold markP
  rw [e3]
  refine ⟨?_, by show k < b.2 + 1; omega⟩
  simp only [bind_ok']
  rw [show b.2 + d + 1 = b.2 + 1 + d by omega]
end
end Go.Proofs.YtgplagdehfhffaaDoor
