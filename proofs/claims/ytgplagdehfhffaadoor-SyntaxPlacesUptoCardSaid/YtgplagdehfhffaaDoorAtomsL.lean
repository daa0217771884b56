/-
  The plain law of reading: errors and their places; atoms as rules, rules as programs.
-/
import Derived.Test.YtgplagdehfhffaaDoorRel
import Derived.Test.YtgplagdehfhffaaDoorMayP
import Derived.Test.YtgplagdehfhffaaDoorShiftL
import Derived.Test.YtgplagdehfhffaaDoorPar3
namespace Go.Proofs.YtgplagdehfhffaaDoor
open Go Go.RowKit Go.Mine
set_option linter.unusedVariables false

theorem sim_refl (S : Toks) (n : Nat) (z : Bool) : Sim S S 0 n z := ⟨fun _ _ => .inl rfl, fun _ _ => rfl, fun _ _ => rfl, fun _ _ _ => rfl⟩
theorem rises_lt {n : Nat} : ∀ {i : Nat} {ts : List Tok}, Rises n i ts → ∀ t ∈ ts, i ≤ t.at_ ∧ t.at_ < n
  | i, [], _, t, ht => by cases ht
  | i, x :: ts, h, t, ht => by
    rcases List.mem_cons.1 ht with rfl | ht
    · exact ⟨h.1, by have := h.2; omega⟩
    · have := rises_lt h.2.2.2.2 t ht
      have := h.1; have := h.2
      omega
theorem toksOf_lt (s : ByteArray) : ∀ t ∈ (toksOf s).ts, t.at_ < s.size := fun t ht =>
  (rises_lt (scanGo_rises (s := s) (s.size + 1) 0 (Nat.zero_le _)).1 t ht).2
theorem toksOf_fin (s : ByteArray) : (toksOf s).fin ≤ s.size := by
  show (if (scanL s).2.2 = 0 then s.size else (scanL s).2.1) ≤ s.size
  split
  · exact Nat.le_refl _
  · exact (scanGo_rises (s := s) (s.size + 1) 0 (Nat.zero_le _)).2
theorem tok_at_le (s : ByteArray) (k : Nat) : ((toksOf s).tok k).at_ ≤ s.size := by
  by_cases hk : k < (toksOf s).ts.length
  · rw [tok_in hk]; exact Nat.le_of_lt (toksOf_lt s _ (List.getElem_mem hk))
  · rw [tok_out (by omega)]; exact toksOf_fin s
/-- an error stands at a token -/
def AtTok (S : Toks) (e : Nat × Nat) : Prop := ∃ j, e.2 = (S.tok j).at_ ∧ Ec S j e.1
theorem Rl.atTok {S S' : Toks} {d n k : Nat} {α : Type} {pos : α → Nat} {sh : α → α} {r r' : PR α} (h : Rl S S' d n k pos sh r r') {e : Nat × Nat} (he : r = .error e) : AtTok S e := by
  obtain ⟨j, _, h2, h3, _⟩ := h.2 e he
  exact ⟨j, h2, h3⟩
theorem bind_err_inv {ε α β : Type} {x : Except ε α} {f : α → Except ε β} {e : ε} (h : x.bind f = .error e) : x = .error e ∨ ∃ a, x = .ok a ∧ f a = .error e := by
  cases x with
  | error e' => cases h; exact .inl rfl
  | ok a => exact .inr ⟨a, rfl, h⟩
theorem whole_err {α : Type} {S : Toks} {r : PR (α × Nat)} {e : Nat × Nat} (h : wholeP S r = .error e) (hr : ∀ e, r = .error e → AtTok S e) : AtTok S e := by
  unfold wholeP at h
  rcases bind_err_inv h with h | ⟨a, _, h⟩
  · exact hr e h
  · rcases bind_err_inv h with h | ⟨u, _, h⟩
    · exact (wantP_rl (sim_refl S 0 false) a.2 [0] (fun h => by cases h)).atTok h
    · cases h
theorem read_err {α : Type} {s : ByteArray} {one : Toks → PR (α × Nat)} {e : Nat × Nat} (h : readL s one = .error e) (hr : ∀ e, one (toksOf s) = .error e → AtTok (toksOf s) e) : (65536 < s.size ∧ e = (3, 0)) ∨ AtTok (toksOf s) e := by
  unfold readL at h
  split at h
  · rename_i hl; cases h; exact .inl ⟨hl, rfl⟩
  · exact .inr (whole_err h hr)
theorem prog_at {S : Toks} {e : Nat × Nat} (h : progP S = .error e) : AtTok S e :=
  (progGo_rl (sim_refl S 0 false) 1025 0 [] (by simp) (by simp)).atTok h
theorem rule_at {S : Toks} {e : Nat × Nat} (h : ruleOne S = .error e) : AtTok S e := by
  unfold ruleOne at h
  rcases bind_err_inv h with h | ⟨a, _, h⟩
  · exact (ruleP_rl (sim_refl S 0 false) 0).atTok h
  · cases h
theorem atom_at {S : Toks} {e : Nat × Nat} (h : atomOne S = .error e) : AtTok S e := by
  unfold atomOne at h
  rcases bind_err_inv h with h | ⟨a, _, h⟩
  · exact (atomP_rl (sim_refl S 0 false) false 0 false).atTok h
  · cases h
/-- an error, by number and place -/
theorem read_err2 {α : Type} {s : ByteArray} {one : Toks → PR (α × Nat)} {e : Nat × Nat} (h : readL s one = .error e) (hr : ∀ e, one (toksOf s) = .error e → AtTok (toksOf s) e) : e.1 ≠ 0 ∧ e.2 ≤ s.size := by
  rcases read_err h hr with ⟨_, rfl⟩ | ⟨j, h1, h2⟩
  · exact ⟨by decide, Nat.zero_le _⟩
  · exact ⟨h2.ne, by rw [h1]; exact tok_at_le s j⟩
section
variable {S : Toks} {k : Nat} {agg : Bool}
theorem part_of_term (hg : S.Gd) {r : Tm × Nat} (h : termP S k = .ok r) (hb : S.bad r.2 = false) (h4 : (S.tok r.2).kind ≠ 4) : partP S k agg = .ok (r.1, r.2, agg) := by
  have hbk := (termP_inv hg h).2.2.1
  unfold partP
  rw [isP_val hbk, bind_ok', h, bind_ok']
  split
  · rfl
  · rw [isP_val hb, bind_ok', if_pos (by simpa using h4)]
theorem termsGo_head (hg : S.Gd) : ∀ {f k : Nat} {agg : Bool} {acc : List Tm} {r : List Tm × Nat × Bool}, termsGo false S f k agg acc = .ok r → S.bad r.2.1 = false → (S.tok r.2.1).kind ≠ 4 → termsGo true S f k agg acc = .ok r
  | 0, _, _, _, _, h, _, _ => by cases h
  | f + 1, k, agg, acc, r, h, hb, h4 => by
    rw [termsGo] at h ⊢
    obtain ⟨u, hu, h⟩ := bind_inv h
    rw [hu, bind_ok']
    split at h
    · cases h
    · rename_i hl
      rw [if_neg hl]
      obtain ⟨q, ho, h⟩ := bind_inv h
      obtain ⟨c, hc, h⟩ := bind_inv h
      unfold oneP at ho
      rw [if_neg (by decide)] at ho
      obtain ⟨t, ht, ho⟩ := bind_inv ho
      cases ho
      obtain ⟨hcb, hcv⟩ := isP_inv hc
      unfold oneP
      rw [if_pos rfl]
      cases c with
      | true =>
        have hk : (S.tok t.2).kind = 6 := by simpa using hcv.symm
        rw [part_of_term hg ht hcb (by omega), bind_ok', hc, bind_ok', if_pos rfl]
        rw [if_pos rfl] at h
        exact termsGo_head hg h hb h4
      | false =>
        rw [if_neg (by decide)] at h
        cases h
        rw [part_of_term hg ht hb h4, bind_ok', hc, bind_ok', if_neg (by decide)]
theorem markP_inv {c : Nat} {r : Nat} (h : markP S k c = .ok r) : S.bad k = false ∧ (S.tok k).kind = c ∧ r = k + 1 := by
  unfold markP at h
  obtain ⟨u, hu, h⟩ := bind_inv h
  cases h
  obtain ⟨h1, h2⟩ := wantP_inv hu
  exact ⟨h1, by simpa using h2, rfl⟩
theorem markP_yes {c : Nat} (hb : S.bad k = false) (hk : (S.tok k).kind = c) : markP S k c = .ok (k + 1) := by
  unfold markP
  rw [wantP_ok hb (by rw [hk]; simp)]; rfl
theorem termsP_head (hg : S.Gd) {r : List Tm × Nat × Bool} (h : termsP false S k agg = .ok r) : termsP true S k agg = .ok r := by
  unfold termsP at h ⊢
  obtain ⟨o, ho, h⟩ := bind_inv h
  rw [ho, bind_ok']
  split at h
  · rename_i hf; rw [if_pos hf]; exact h
  · rename_i hf
    rw [if_neg hf]
    obtain ⟨q, hq, h⟩ := bind_inv h
    obtain ⟨z, hz, h⟩ := bind_inv h
    cases h
    obtain ⟨h1, h2, rfl⟩ := markP_inv hz
    rw [termsGo_head hg hq h1 (by omega), bind_ok', hz]; rfl
theorem atomP_head (hg : S.Gd) {r : Am × Nat × Bool} (h : atomP false S k agg = .ok r) : atomP true S k agg = .ok r := by
  unfold atomP at h ⊢
  obtain ⟨q, hq, h⟩ := bind_inv h
  obtain ⟨z, hz, h⟩ := bind_inv h
  rw [hq, bind_ok', termsP_head hg hz]
  exact h
theorem atomP_end {head : Bool} {r : Am × Nat × Bool} (h : atomP head S k agg = .ok r) : r.2.1 ≤ S.ts.length := by
  unfold atomP at h
  obtain ⟨q, hq, h⟩ := bind_inv h
  obtain ⟨z, hz, h⟩ := bind_inv h
  cases h
  unfold wordP at hq
  obtain ⟨u, hu, hq⟩ := bind_inv hq
  have hw := wantP_lt hu (by decide)
  split at hq
  · cases hq
  · cases hq
    unfold termsP at hz
    obtain ⟨o, ho, hz⟩ := bind_inv hz
    split at hz
    · cases hz; exact hw
    · obtain ⟨y, hy, hz⟩ := bind_inv hz
      obtain ⟨m, hm, hz⟩ := bind_inv hz
      cases hz
      obtain ⟨_, h2, rfl⟩ := markP_inv hm
      exact in_kind (by omega)
end
/-- a text that is an atom -/
theorem atom_inv {s : ByteArray} {a : Am} (h : readL s atomOne = .ok a) : ∃ g, atomP false (toksOf s) 0 false = .ok (a, (toksOf s).ts.length, g) ∧ (toksOf s).fault = 0 := by
  obtain ⟨_, h⟩ := (show s.size ≤ 65536 ∧ wholeP (toksOf s) (atomOne (toksOf s)) = .ok a by
    unfold readL at h
    split at h
    · cases h
    · exact ⟨by omega, h⟩)
  unfold wholeP at h
  obtain ⟨x, hx, h⟩ := bind_inv h
  obtain ⟨u, hu, h⟩ := bind_inv h
  cases h
  unfold atomOne at hx
  obtain ⟨q, hq, hx⟩ := bind_inv hx
  cases hx
  have hend := atomP_end hq
  obtain ⟨hb, hk⟩ := wantP_inv hu
  have hk0 : ((toksOf s).tok q.2.1).kind = 0 := by simpa using hk
  have hge : (toksOf s).ts.length ≤ q.2.1 := by
    by_cases hlt : q.2.1 < (toksOf s).ts.length
    · have := ((toksOf_wf s).tok q.2.1).2.2 hlt; omega
    · omega
  have he : q.2.1 = (toksOf s).ts.length := by omega
  refine ⟨q.2.2, by rw [← he]; exact hq, ?_⟩
  unfold Toks.bad at hb
  rw [decide_eq_true hge] at hb
  simpa using hb
theorem atom_not_rule {s : ByteArray} {a : Am} {r : Rm} (h : readL s atomOne = .ok a) (h2 : readL s ruleOne = .ok r) : False := by
  obtain ⟨g, ha, hf⟩ := atom_inv h
  obtain ⟨_, k, h2⟩ := readL_inv h2
  unfold ruleOne at h2
  obtain ⟨q, hq, h2⟩ := bind_inv h2
  unfold ruleP at hq
  obtain ⟨x, hx, hq⟩ := bind_inv hq
  rw [atomP_head (toksOf_gd s) ha] at hx
  cases hx
  obtain ⟨b, hb, hq⟩ := bind_inv hq
  obtain ⟨m, hm, hq⟩ := bind_inv hq
  have hk : ((toksOf s).tok (toksOf s).ts.length).kind = 0 := by rw [tok_out (Nat.le_refl _)]
  have hbd : (toksOf s).bad (toksOf s).ts.length = false := by unfold Toks.bad; rw [hf]; simp
  unfold bodyP at hb
  rw [isP_val hbd, bind_ok', if_neg (by rw [hk]; decide)] at hb
  cases hb
  have := (markP_inv hm).2.1
  simp only at this
  omega
theorem scan_stop : scanL ⟨#[46]⟩ = ([⟨7, emptyB, 0⟩], 0, 0) := by rfl
/-- an atom and a full stop are a rule -/
theorem rule_of_atom {s t : ByteArray} {a : Am} (ht : t.data.toList = s.data.toList ++ [10, 46]) (h : readL s atomOne = .ok a) (hs : t.size ≤ 65536) : readL t ruleOne = .ok ⟨a, []⟩ := by
  obtain ⟨g, ha, hf⟩ := atom_inv h
  have hl := scanL_line (s := s) (o := ⟨#[46]⟩) (t := t) ht hf
  rw [scan_stop] at hl
  have e1 : (toksOf t).ts = (toksOf s).ts ++ [⟨7, emptyB, s.size + 1⟩] := by
    show (scanL t).1 = _
    rw [hl]; rfl
  have e2 : (toksOf t).fault = 0 := by
    show (scanL t).2.2 = 0
    rw [hl]; rfl
  have hbt : ∀ k, (toksOf t).bad k = false := fun k => by unfold Toks.bad; rw [e2]; simp
  have hbs : ∀ k, (toksOf s).bad k = false := fun k => by unfold Toks.bad; rw [hf]; simp
  have k1 : ∀ k, k < (toksOf s).ts.length → (toksOf t).tok k = (toksOf s).tok k := fun k hk => by
    rw [tok_in hk, tok_in (by rw [e1, List.length_append]; omega)]
    simp only [e1]
    rw [List.getElem_append_left hk]
  have k2 : (toksOf t).tok (toksOf s).ts.length = ⟨7, emptyB, s.size + 1⟩ := by
    rw [tok_in (by rw [e1, List.length_append]; simp)]
    simp only [e1]
    rw [List.getElem_append_right (Nat.le_refl _)]
    simp
  have k3 : ∀ k, (toksOf s).ts.length < k → (toksOf t).tok k = ⟨0, emptyB, (toksOf t).fin⟩ := fun k hk => tok_out (by rw [e1, List.length_append]; exact hk)
  have hsim : Sim (toksOf s) (toksOf t) 0 ((toksOf s).ts.length + 1) true := by
    refine ⟨fun k hk => ?_, fun k hk => ?_, fun k _ => by rw [hbt, hbs], fun k _ hb => by rw [hbs] at hb; cases hb⟩
    · by_cases hlt : k < (toksOf s).ts.length
      · exact .inl (by rw [Nat.add_zero, k1 k hlt])
      · obtain rfl : k = (toksOf s).ts.length := by omega
        exact .inr ⟨rfl, by rw [tok_out (Nat.le_refl _)], by rw [Nat.add_zero, k2]⟩
    · by_cases hlt : k < (toksOf s).ts.length
      · rw [Nat.add_zero, k1 k hlt]
      · obtain rfl : k = (toksOf s).ts.length := by omega
        rw [Nat.add_zero, k2, tok_out (Nat.le_refl _)]
  have hat := ((atomP_rl hsim false 0 false).1 _ ha).2.resolve_left (fun hh => by have h' : (toksOf s).ts.length + 1 ≤ (toksOf s).ts.length := hh; omega)
  have hat2 := atomP_head (toksOf_gd t) hat
  rw [Nat.add_zero] at hat2
  unfold readL
  rw [if_neg (by omega)]
  have hru : ruleP (toksOf t) 0 = .ok (⟨a, []⟩, (toksOf s).ts.length + 1, g) := by
    unfold ruleP
    rw [hat2, bind_ok']
    simp only [sh3, Nat.add_zero]
    have hbo : bodyP (toksOf t) (toksOf s).ts.length g = .ok ([], (toksOf s).ts.length) := by
      unfold bodyP
      rw [isP_val (hbt _), bind_ok', if_neg (by rw [k2]; show ¬ ([8] : List Nat).contains 7 = true; decide)]
    rw [hbo, bind_ok', markP_yes (hbt _) (by rw [k2])]; rfl
  unfold ruleOne wholeP
  rw [hru, bind_ok', bind_ok', wantP_ok (hbt _) (by simp only; rw [k3 _ (Nat.lt_succ_self _)]; show ([0] : List Nat).contains 0 = true; decide)]; rfl
/-- a rule is a program -/
theorem prog_of_rule {s : ByteArray} {r : Rm} (h : readL s ruleOne = .ok r) : readL s progP = .ok [r] := by
  unfold readL at h ⊢
  split at h
  · cases h
  · rename_i hl
    rw [if_neg hl]
    unfold wholeP at h
    obtain ⟨x, hx, h⟩ := bind_inv h
    obtain ⟨u, hu, h⟩ := bind_inv h
    cases h
    unfold ruleOne at hx
    obtain ⟨q, hq, hx⟩ := bind_inv hx
    cases hx
    have hw : wantP (toksOf s) 0 [1] = .ok () := by
      unfold ruleP at hq
      obtain ⟨y, hy, _⟩ := bind_inv hq
      unfold atomP at hy
      obtain ⟨z, hz, _⟩ := bind_inv hy
      unfold wordP at hz
      obtain ⟨v, hv, _⟩ := bind_inv hz
      exact hv
    obtain ⟨hb, hk⟩ := wantP_inv hw
    have hk1 : ((toksOf s).tok 0).kind = 1 := by simpa using hk
    obtain ⟨hb2, hk2⟩ := wantP_inv hu
    have hpr : progP (toksOf s) = .ok ([q.1], q.2.1) := by
      unfold progP
      rw [progGo, isP_val hb, bind_ok', if_neg (by rw [hk1]; decide), hw, bind_ok', if_neg (by decide), hq, bind_ok']
      simp only [List.nil_append]
      rw [progGo, isP_val hb2, bind_ok', if_pos hk2]
    unfold wholeP
    rw [hpr, bind_ok', hu]; rfl
end Go.Proofs.YtgplagdehfhffaaDoor
