/-
  P8.6: where an error of the grammar or of the limits stands a token begins; what stands behind that token changes nothing.
-/
import Derived.Test.YtgplagdehfhffaaDoorCutL
import Derived.Test.YtgplagdehfhffaaDoorAtomsL
import Derived.Test.YtgplagdehfhffaaDoorLawP
namespace Go.Proofs.YtgplagdehfhffaaDoor
open Go Go.RowKit Go.Mine
set_option linter.unusedVariables false

theorem scan_fault {s : ByteArray} : ∀ (f i : Nat), (scanGo s f i).2.2 = 0 ∨ (scanGo s f i).2.2 = 60 ∨ (scanGo s f i).2.2 = 61
  | 0, i => .inl rfl
  | f + 1, i => by
    rw [scanGo]
    split
    · split
      · exact scan_fault f _
      · split
        · exact scan_fault f _
        · split
          · split
            · exact scan_fault f _
            · exact .inr (.inr rfl)
          · split
            · exact scan_fault f _
            · split
              · exact scan_fault f _
              · exact .inr (.inl rfl)
    · exact .inl rfl
theorem toks_fault (s : ByteArray) : (toksOf s).fault = 0 ∨ (toksOf s).fault = 60 ∨ (toksOf s).fault = 61 := scan_fault _ _
theorem rises_get {n : Nat} : ∀ {i : Nat} {ts : List Tok}, Rises n i ts → ∀ (a b : Nat) (hab : a < b) (hb : b < ts.length), (ts[a]'(by omega)).at_ < ts[b].at_
  | i, [], _, a, b, _, hb => absurd hb (Nat.not_lt_zero _)
  | i, x :: ts, h, 0, b + 1, _, hb => by
    have hb' : b < ts.length := by simpa using hb
    have := (rises_mem h.2.2.2.2 (t := ts[b]) (List.getElem_mem hb')).1
    show x.at_ < ts[b].at_
    omega
  | i, x :: ts, h, a + 1, b + 1, hab, hb => rises_get h.2.2.2.2 a b (by omega) (by simpa using hb)
theorem toks_rise (s : ByteArray) : Rises s.size 0 (toksOf s).ts := (scanGo_rises (s := s) (s.size + 1) 0 (Nat.zero_le _)).1
theorem bad_out {S : Toks} {j : Nat} (h : S.bad j = false) (hj : S.ts.length ≤ j) : S.fault = 0 := by
  unfold Toks.bad at h
  rw [decide_eq_true hj] at h
  simpa using h
theorem toks_fin {s : ByteArray} (h : (toksOf s).fault = 0) : (toksOf s).fin = s.size := by
  have h' : (scanL s).2.2 = 0 := h
  show (if (scanL s).2.2 = 0 then s.size else (scanL s).2.1) = s.size
  rw [if_pos h']
theorem tok_inj {s : ByteArray} {i j : Nat} (hi : i < (toksOf s).ts.length) (hj : (toksOf s).bad j = false) (h : ((toksOf s).tok j).at_ = ((toksOf s).tok i).at_) : j = i := by
  rw [tok_in hi] at h
  by_cases hjl : j < (toksOf s).ts.length
  · rw [tok_in hjl] at h
    rcases Nat.lt_trichotomy j i with h1 | h1 | h1
    · have := rises_get (toks_rise s) j i h1 hi; omega
    · exact h1
    · have := rises_get (toks_rise s) i j h1 hjl; omega
  · have h0 := bad_out hj (by omega)
    rw [tok_out (by omega)] at h
    have h1 := toks_fin h0
    have h2 := toksOf_lt s _ (List.getElem_mem hi)
    simp only at h
    omega
theorem cut_sim {s o t : ByteArray} {j : Nat} (hj : j + 1 < (toksOf s).ts.length) (ht : t.data.toList = s.data.toList.take ((toksOf s).ts[j + 1]).at_ ++ 10 :: o.data.toList) (h0 : (scanL o).2.2 = 0) :
    Sim (toksOf s) (toksOf t) 0 (j + 1) false ∧ ∀ k, k < j + 1 → (toksOf t).tok k = (toksOf s).tok k := by
  obtain ⟨x, hx⟩ : ∃ x, x = (toksOf s).ts[j + 1] := ⟨_, rfl⟩
  rw [← hx] at ht
  have hxs : x.at_ < s.size := by rw [hx]; exact toksOf_lt s _ (List.getElem_mem _)
  have hsp : (toksOf s).ts = (toksOf s).ts.take (j + 1) ++ x :: (toksOf s).ts.drop (j + 2) := by
    rw [hx, ← List.drop_eq_getElem_cons hj, List.take_append_drop]
  have hT : TRes s 0 ((toksOf s).ts.take (j + 1) ++ x :: (toksOf s).ts.drop (j + 2), (scanL s).2.1, (scanL s).2.2) := by
    rw [← hsp]; exact scanL_res s
  obtain ⟨p', hC⟩ := scan_cut x _ _ _ (Nat.le_of_lt hxs) _ 0 rfl (Nat.zero_le _) _ (fun t ht => by
    obtain ⟨k, hk, rfl⟩ := List.getElem_of_mem ht
    rw [List.length_take] at hk
    rw [List.getElem_take, hx]
    exact rises_get (toks_rise s) k (j + 1) (by omega) hj) hT
  have hc := (scanL_res _).uniq hC
  have hl := scanL_line (s := s.extract 0 x.at_) (o := o) (t := t) (by rw [ht, ext_data, List.drop_zero, Nat.sub_zero]) (by rw [hc])
  rw [hc] at hl
  have e1 : (toksOf t).ts = (toksOf s).ts.take (j + 1) ++ (toksOf o).ts.map (shT ((s.extract 0 x.at_).size + 1)) := by
    show (scanL t).1 = _
    rw [hl]; rfl
  have hlen : ((toksOf s).ts.take (j + 1)).length = j + 1 := by rw [List.length_take]; omega
  have hk : ∀ k, k < j + 1 → (toksOf t).tok k = (toksOf s).tok k := fun k hk => by
    have hk2 : k < (toksOf t).ts.length := by rw [e1, List.length_append, hlen]; omega
    rw [tok_in hk2, tok_in (show k < (toksOf s).ts.length by omega)]
    have : (toksOf t).ts[k]? = (toksOf s).ts[k]? := by
      rw [e1, List.getElem?_append_left (by omega), List.getElem?_take, if_pos hk]
    rw [List.getElem?_eq_getElem hk2, List.getElem?_eq_getElem (show k < (toksOf s).ts.length by omega)] at this
    simpa using this
  refine ⟨⟨fun k h => .inl (by rw [Nat.add_zero, hk k h]), fun k h => by rw [Nat.add_zero, hk k h], fun k h => ?_, fun k h hb => ?_⟩, hk⟩
  · rw [Nat.add_zero, not_bad (show k < (toksOf s).ts.length by omega), not_bad (by rw [e1, List.length_append, hlen]; omega)]
  · rw [not_bad (show k < (toksOf s).ts.length by omega)] at hb; cases hb
/-- an error of a program that is read in full, and of one that is alike ahead of a place -/
theorem prog_rl {S S' : Toks} {n : Nat} (hs : Sim S S' 0 n false) {e : Nat × Nat} (h : wholeP S (progP S) = .error e) : ∃ j, e.2 = (S.tok j).at_ ∧ Ec S j e.1 ∧ (n ≤ j ∨ wholeP S' (progP S') = .error (e.1, (S'.tok j).at_)) := by
  have hp := progGo_rl hs 1025 0 [] (by simp) (by simp)
  unfold wholeP at h ⊢
  rcases bind_err_inv h with h | ⟨a, ha, h⟩
  · obtain ⟨j, _, h2, h3, h4⟩ := hp.2 e h
    refine ⟨j, h2, h3, h4.imp id fun h4 => ?_⟩
    have h4' : progP S' = .error (e.1, (S'.tok j).at_) := h4
    rw [h4']; rfl
  · rcases bind_err_inv h with h | ⟨u, _, h⟩
    · have hw := wantP_rl hs a.2 [0] (fun h => by cases h)
      obtain ⟨j, h1, h2, h3, h4⟩ := hw.2 e h
      refine ⟨j, h2, h3, ?_⟩
      rcases (hp.1 a ha).2 with h5 | h5
      · exact .inl (Nat.le_trans h5 h1)
      · refine h4.imp id fun h4 => ?_
        have h5' : progP S' = .ok (a.1, a.2 + 0) := h5
        rw [h5', bind_ok']
        simp only
        rw [h4]; rfl
    · cases h
/-- P8.6 -/
theorem places_law (s : ByteArray) :
    (noOf (progS s) < 80 ∧ (noOf (progS s) = 0 ∧ atOf (progS s) = 0 ∨ noOf (progS s) = 3 ∧ atOf (progS s) = 0 ∨ noOf (progS s) = 60 ∨ noOf (progS s) = 61)) ∨
    (80 ≤ noOf (progS s) ∧ noOf (progS s) ≤ 84 ∧ s.size ≤ 65536 ∧ (atOf (progS s) = s.size ∧ noOf (progS s) = 80 ∨
      (atOf (progS s) < s.size ∧ ∃ (j : Nat) (hj : j < (scanL s).1.length), (∀ (i : Nat) (hi : i < (scanL s).1.length), (scanL s).1[i].at_ = atOf (progS s) ↔ i = j) ∧
        ∀ (h : j + 1 < (scanL s).1.length) (o t : ByteArray), t.data.toList = s.data.toList.take ((scanL s).1[j + 1]).at_ ++ 10 :: o.data.toList → (scanL o).2.2 = 0 → t.size ≤ 65536 → noOf (progS t) = noOf (progS s) ∧ atOf (progS t) = atOf (progS s)))) := by
  rcases hP : progS s with e | r
  · simp only [noOf, atOf]
    by_cases hz : 65536 < s.size
    · unfold progS readL at hP
      rw [if_pos hz] at hP
      cases hP
      exact .inl ⟨by decide, .inr (.inl ⟨rfl, rfl⟩)⟩
    · have hP' := hP
      unfold progS readL at hP
      rw [if_neg hz] at hP
      obtain ⟨j, h1, h2, _⟩ := prog_rl (sim_refl (toksOf s) 0 false) hP
      rcases h2 with ⟨h2, hb⟩ | ⟨hb, h2⟩
      · have h3 := toks_fault s
        have h4 : (toksOf s).fault ≠ 0 := by
          unfold Toks.bad at hb; simp at hb; exact hb.2
        left
        rw [h2]
        rcases h3 with h3 | h3 | h3
        · exact absurd h3 h4
        · rw [h3]; exact ⟨by decide, .inr (.inr (.inl rfl))⟩
        · rw [h3]; exact ⟨by decide, .inr (.inr (.inr rfl))⟩
      · right
        refine ⟨by omega, by omega, by omega, ?_⟩
        by_cases hj : j < (toksOf s).ts.length
        · right
          have hat : e.2 = ((toksOf s).ts[j]).at_ := by rw [h1, tok_in hj]
          refine ⟨by rw [hat]; exact toksOf_lt s _ (List.getElem_mem hj), j, hj, fun i hi => ⟨fun h => ?_, fun h => ?_⟩, fun hj1 o t ht h0 htz => ?_⟩
          · have hi' : i < (toksOf s).ts.length := hi
            refine tok_inj hj (not_bad hi') ?_
            rw [tok_in hi', ← h1]; exact h
          · subst h; exact hat.symm
          · obtain ⟨hs, hk⟩ := cut_sim (s := s) hj1 ht h0
            obtain ⟨j2, g1, g2, g3⟩ := prog_rl hs hP
            have hb2 : (toksOf s).bad j2 = false := by
              rcases g2 with ⟨g2, g4⟩ | ⟨g4, _⟩
              · have h3 := toks_fault s; omega
              · exact g4
            have hjj : j2 = j := tok_inj hj hb2 (by rw [← g1, ← h1])
            subst hjj
            have g3 := g3.resolve_left (by omega)
            have : progS t = .error (e.1, ((toksOf t).tok j2).at_) := by
              unfold progS readL
              rw [if_neg (by omega)]
              exact g3
            rw [this, hk j2 (by omega), ← h1]
            exact ⟨rfl, rfl⟩
        · left
          have hf := bad_out hb (by omega)
          rw [tok_out (by omega)] at h1
          refine ⟨by rw [h1]; exact toks_fin hf, ?_⟩
          have hj' : ¬ j < (toksOf s).ts.length := hj
          omega
  · exact .inl ⟨by simp [noOf], .inl ⟨rfl, rfl⟩⟩
end Go.Proofs.YtgplagdehfhffaaDoor
