/-
  The plain law of reading: blanks and comments make no difference; two texts, side by side.
-/
import Derived.Test.YtgplagdehfhffaaDoorAtomsL
import Derived.Test.YtgplagdehfhffaaDoorRel2
namespace Go.Proofs.YtgplagdehfhffaaDoor
open Go Go.RowKit Go.Mine
set_option linter.unusedVariables false

def sepO (ts : List Tok) : List UInt8 := ts.flatMap fun t => writtenL t ++ [32, 37, 34, 32, 46, 10, 9]
theorem sep_back {s : ByteArray} : ∀ (ts : List Tok) (i : Nat), (∀ t ∈ ts, Good t) → s.data.toList.drop i = sepO ts → ∃ r : List Tok, TRes s i (r, 0, 0) ∧ r.map (fun t => (t.kind, t.text)) = ts.map (fun t => (t.kind, t.text))
  | [], i, _, h => ⟨[], TRes.ofEnd (by
      have := congrArg List.length h
      rw [List.length_drop, ← Lib.size_eq] at this
      simp [sepO] at this
      omega), rfl⟩
  | t :: ts, i, hg, h => by
    have h0 : s.data.toList.drop i = writtenL t ++ 32 :: 37 :: 34 :: 32 :: 46 :: 10 :: 9 :: sepO ts := by rw [h]; simp [sepO]
    have hrest : s.data.toList.drop (i + (writtenL t).length) = 32 :: 37 :: 34 :: 32 :: 46 :: 10 :: 9 :: sepO ts := by rw [← List.drop_drop, h0, List.drop_left]
    obtain ⟨hb, hb1, hb2⟩ := drop_cons hrest
    obtain ⟨c1, d1, e1⟩ := drop_cons hb2
    obtain ⟨c2, d2, e2⟩ := drop_cons e1
    obtain ⟨c3, d3, e3⟩ := drop_cons e2
    obtain ⟨c4, d4, e4⟩ := drop_cons e3
    obtain ⟨c5, d5, e5⟩ := drop_cons e4
    obtain ⟨c6, d6, e6⟩ := drop_cons e5
    obtain ⟨r, hr6, hm⟩ := sep_back ts _ (fun x hx => hg x (List.mem_cons_of_mem _ hx)) e6
    have hr5 := TRes.ofBlank c6 (.inr (.inl d6)) hr6
    have hr4 := TRes.ofBlank c5 (.inr (.inr (.inl d5))) hr5
    have hce : cmtE s (i + (writtenL t).length + 1) = i + (writtenL t).length + 1 + 1 + 1 + 1 + 1 := by
      unfold cmtE
      rw [hb2]
      simp
    have hr := TRes.ofCmt c1 d1 (by rw [hce]; exact hr4)
    have hr2 := TRes.ofBlank hb (.inl hb1) hr
    have hi : i ≤ s.size := by omega
    rcases hg t (List.mem_cons_self ..) with hk | ⟨hk, hw⟩ | ⟨hk1, hk2, htx⟩
    · have hwr : writtenL t = 34 :: (t.text.data.toList.flatMap q1 ++ [34]) := by unfold writtenL; rw [if_neg (by omega), if_pos hk]; rfl
      rw [hwr, List.cons_append, List.append_assoc] at h0
      obtain ⟨hi', h1, h2⟩ := drop_cons h0
      have hq := quoteE_back (l := t.text.data.toList) (rest := 32 :: 37 :: 34 :: 32 :: 46 :: 10 :: 9 :: sepO ts) (by simpa using h2)
      have he : i + 1 + (t.text.data.toList.flatMap q1).length + 1 = i + (writtenL t).length := by
        rw [hwr]; simp only [List.length_cons, List.length_append, List.length_nil]; omega
      rw [he] at hq
      have := TRes.ofQuote hi' h1 hq hr2
      refine ⟨_, this, ?_⟩
      simp only [List.map_cons, hm, ba_mk, hk]
    · have hwr : writtenL t = t.text.data.toList := by unfold writtenL; rw [if_pos hk]
      rw [hwr] at h0 hr2
      have hkz : t.kind ≠ 0 := by omega
      have hgo : GoesOn t.text (s.extract i s.size) := ⟨⟨37 :: 34 :: 32 :: 46 :: 10 :: 9 :: sepO ts, by rw [ext_drop, h0]⟩⟩
      obtain ⟨hkd, hpos⟩ := wordL_kind hw hkz
      have hwu := hgo.wordL hpos
      rw [hw] at hwu
      have hws := wordL_shift hi
      rw [hwu] at hws
      simp only at hws
      obtain ⟨hkd2, hi'⟩ := wordL_kind hws hkz
      rw [← Lib.size_eq] at hr2
      have := TRes.ofWord hi' (kind_plain hi' hkd2) hws hkz hr2
      refine ⟨_, this, ?_⟩
      have hx : s.extract i (i + t.text.size) = t.text := by
        apply ByteArray.ext
        apply Array.ext'
        rw [ext_data, h0, Nat.add_sub_cancel_left, Lib.size_eq, List.take_left]
      simp only [List.map_cons, hm, hx]
    · have hwr : writtenL t = marksW.getD t.kind [] := by unfold writtenL; rw [if_neg (by omega), if_neg (by omega)]
      obtain ⟨hml, c, m, hcm, hc1, hc2, hc3⟩ := marksW_law t.kind hk1 hk2 (37 :: 34 :: 32 :: 46 :: 10 :: 9 :: sepO ts)
      rw [hwr] at h0 hr2
      rw [← h0] at hml
      rw [hcm, List.cons_append] at h0
      obtain ⟨hi', h1, h2⟩ := drop_cons h0
      have hw0 : (wordL s i).1 = 0 := by
        have : kindL s i = 0 := by unfold kindL; rw [if_pos hi', decode_ascii s i hi' (by rw [h1]; exact hc1), h1]; exact hc2
        rw [wordL_no this]
      have := TRes.ofMark hi' (by rw [h1]; exact hc3) hw0 hml (by omega) hr2
      refine ⟨_, this, ?_⟩
      simp only [List.map_cons, hm, htx]
theorem progGo_end {S : Toks} : ∀ {f k : Nat} {acc : List Rm} {r : List Rm × Nat}, progGo S f k acc = .ok r → wantP S r.2 [0] = .ok ()
  | 0, _, _, _, h => by cases h
  | f + 1, k, acc, r, h => by
    rw [progGo] at h
    obtain ⟨z, hz, h⟩ := bind_inv h
    split at h
    · rename_i hzt
      cases h
      obtain ⟨hb, hv⟩ := isP_inv hz
      exact wantP_ok hb (by rw [← hv]; exact hzt)
    · obtain ⟨u, _, h⟩ := bind_inv h
      split at h
      · cases h
      · obtain ⟨q, ho, h⟩ := bind_inv h
        exact progGo_end h
theorem progP_end {S : Toks} {r : List Rm × Nat} (h : progP S = .ok r) : wantP S r.2 [0] = .ok () := progGo_end h
/-- the same tokens, wherever they stand: the same program -/
theorem same_toks {S S' : Toks} (h : S'.ts.map (fun t => (t.kind, t.text)) = S.ts.map (fun t => (t.kind, t.text))) (hf : S.fault = 0) (hf' : S'.fault = 0) : R2.Sim S S' 0 none false := by
  have hl : S'.ts.length = S.ts.length := by have := congrArg List.length h; simpa using this
  have hk : ∀ k, (S'.tok k).kind = (S.tok k).kind ∧ (S'.tok k).text = (S.tok k).text := fun k => by
    by_cases hk : k < S.ts.length
    · have h1 := congrArg (fun l => l[k]?) h
      simp only [List.getElem?_map, List.getElem?_eq_getElem hk, List.getElem?_eq_getElem (show k < S'.ts.length by omega), Option.map_some, Option.some.injEq, Prod.mk.injEq] at h1
      rw [tok_in hk, tok_in (show k < S'.ts.length by omega)]
      exact h1
    · rw [tok_out (by omega), tok_out (by omega)]
      exact ⟨rfl, rfl⟩
  refine ⟨fun k _ => .inl (hk k).1, fun k _ => (hk k).2, fun k _ => ?_, fun k _ hb => by rw [hf, hf']⟩
  unfold Toks.bad
  rw [hf, hf']; simp
theorem prog_inv {s : ByteArray} {rs : List Rm} (h : readL s progP = .ok rs) : s.size ≤ 65536 ∧ ∃ k, progP (toksOf s) = .ok (rs, k) ∧ wantP (toksOf s) k [0] = .ok () := by
  unfold readL at h
  split at h
  · cases h
  · refine ⟨by omega, ?_⟩
    unfold wholeP at h
    obtain ⟨x, hx, h⟩ := bind_inv h
    obtain ⟨u, hu, h⟩ := bind_inv h
    cases h
    exact ⟨x.2, hx, hu⟩
theorem prog_fault {s : ByteArray} {rs : List Rm} {k : Nat} (h : wantP (toksOf s) k [0] = .ok ()) : (toksOf s).ts.length ≤ k ∧ (toksOf s).fault = 0 := by
  obtain ⟨hb, hk⟩ := wantP_inv h
  have hk0 : ((toksOf s).tok k).kind = 0 := by simpa using hk
  have hge : (toksOf s).ts.length ≤ k := by
    by_cases hlt : k < (toksOf s).ts.length
    · have := ((toksOf_wf s).tok k).2.2 hlt; omega
    · omega
  refine ⟨hge, ?_⟩
  unfold Toks.bad at hb
  rw [decide_eq_true hge] at hb
  simpa using hb
/-- P8.5: a program's text, its tokens written out with a comment and a blank between -/
theorem spaced_reads {s : ByteArray} {rs : List Rm} (h : readL s progP = .ok rs) (hs : (sepO (scanL s).1).length ≤ 65536) : readL ⟨(sepO (scanL s).1).toArray⟩ progP = .ok rs := by
  obtain ⟨_, k, hp, hw⟩ := prog_inv h
  obtain ⟨hk, hf⟩ := prog_fault (rs := rs) hw
  have hgd : ∀ t ∈ (scanL s).1, Good t := fun t ht => (scanGo_good (s := s) (s.size + 1) 0 (Nat.zero_le _) t ht).1
  obtain ⟨r, hr, hm⟩ := sep_back (s := ⟨(sepO (scanL s).1).toArray⟩) (scanL s).1 0 hgd rfl
  have hsc := (scanL_res _).uniq hr
  have hts : (toksOf ⟨(sepO (scanL s).1).toArray⟩).ts = r := by
    show (scanL _).1 = r
    rw [hsc]
  have hf' : (toksOf ⟨(sepO (scanL s).1).toArray⟩).fault = 0 := by
    show (scanL _).2.2 = 0
    rw [hsc]
  have hsim : R2.Sim (toksOf s) (toksOf ⟨(sepO (scanL s).1).toArray⟩) 0 none false := same_toks (by rw [hts]; exact hm) hf hf'
  have h1 := ((R2.progGo_rl hsim 1025 0 [] (by simp) (by simp)).1 _ hp).2.resolve_left id
  have h2 := ((R2.wantP_rl hsim k [0] (fun h => by cases h)).1 _ hw).2.resolve_left id
  have h1' : progP (toksOf ⟨(sepO (scanL s).1).toArray⟩) = .ok (rs, k) := h1
  have h2' : wantP (toksOf ⟨(sepO (scanL s).1).toArray⟩) k [0] = .ok () := h2
  unfold readL
  rw [if_neg (by show ¬ 65536 < (sepO (scanL s).1).toArray.size; rw [List.size_toArray]; omega)]
  unfold wholeP
  rw [h1', bind_ok', h2']; rfl
section
variable {S S' : Toks} {d : Nat}
theorem progGo_len : ∀ {f k : Nat} {acc : List Rm} {r : List Rm × Nat}, progGo S f k acc = .ok r → acc.length ≤ r.1.length
  | 0, _, _, _, h => by cases h
  | f + 1, k, acc, r, h => by
    rw [progGo] at h
    obtain ⟨z, _, h⟩ := bind_inv h
    split at h
    · cases h; exact Nat.le_refl _
    · obtain ⟨u, _, h⟩ := bind_inv h
      split at h
      · cases h
      · obtain ⟨q, ho, h⟩ := bind_inv h
        have := progGo_len h
        simp at this
        omega
/-- ahead: what the first row's rules are, they are in both -/
theorem ahead_p (hs : R2.Sim S S' 0 (some S.ts.length) false) (hw : S.Wf) : ∀ (f k : Nat) (acc : List Rm) (rs : List Rm) (k0 : Nat), k ≤ S.ts.length → f + acc.length = 1025 → progGo S f k acc = .ok (rs, k0) →
    k0 = S.ts.length ∧ ∃ f', f' + rs.length = 1025 ∧ progGo S' f k acc = progGo S' f' k0 rs
  | 0, k, acc, rs, k0, _, _, h => by cases h
  | f + 1, k, acc, rs, k0, hk, hf, h => by
    have h' := h
    rw [progGo] at h
    obtain ⟨z, hz, h⟩ := bind_inv h
    obtain ⟨hb, hzv⟩ := isP_inv hz
    cases z with
    | true =>
      rw [if_pos rfl] at h
      cases h
      have hk0 : (S.tok k).kind = 0 := by simpa using hzv.symm
      have hge : S.ts.length ≤ k := by
        by_cases hlt : k < S.ts.length
        · have := (hw.tok k).2.2 hlt; omega
        · omega
      exact ⟨by omega, f + 1, hf, rfl⟩
    | false =>
      rw [if_neg (by decide)] at h
      obtain ⟨u, hu, h⟩ := bind_inv h
      split at h
      · cases h
      · rename_i hl
        obtain ⟨q, hq, h⟩ := bind_inv h
        have hlt := wantP_lt hu (by decide)
        have hqe : q.2.1 ≤ S.ts.length := by
          unfold ruleP at hq
          obtain ⟨a, _, hq⟩ := bind_inv hq
          obtain ⟨b, _, hq⟩ := bind_inv hq
          obtain ⟨m, hm, hq⟩ := bind_inv hq
          cases hq
          obtain ⟨_, h7, rfl⟩ := markP_inv hm
          exact in_kind (by omega)
        have e1 := ((R2.isP_rl hs k [0] (fun h => by cases h)).1 _ hz).2.resolve_left (fun h => by have h' : S.ts.length ≤ k := h; omega)
        have e2 := ((R2.wantP_rl hs k [1] (fun h => by cases h)).1 _ hu).2.resolve_left (fun h => by have h' : S.ts.length ≤ k := h; omega)
        have e3 := (R2.ruleP_in hs hq (fun j hj h => by have h' : S.ts.length ≤ j := h; omega)).1
        simp only [Nat.add_zero] at e1 e2 e3
        obtain ⟨h1, f', h2, h3⟩ := ahead_p hs hw f q.2.1 (acc ++ [q.1]) rs k0 hqe (by simp; omega) h
        refine ⟨h1, f', h2, ?_⟩
        rw [← h3, progGo, e1, bind_ok', if_neg (by decide), e2, bind_ok', if_neg hl, e3, bind_ok']
/-- behind: the second row's rules come to those that stand there -/
theorem behind_p (hs : R2.Sim S S' d none false) (rs : List Rm) : ∀ (f k f' : Nat) (acc : List Rm), f + acc.length = 1025 → f' + rs.length + acc.length = 1025 → rs.length + acc.length ≤ 1024 →
    (∀ e, progGo S f k acc = .error e → ∃ e', progGo S' f' (k + d) (rs ++ acc) = .error e') ∧
    (∀ r, progGo S f k acc = .ok r → (rs.length + r.1.length ≤ 1024 → progGo S' f' (k + d) (rs ++ acc) = .ok (rs ++ r.1, r.2 + d)) ∧ (1024 < rs.length + r.1.length → ∃ e', progGo S' f' (k + d) (rs ++ acc) = .error e'))
  | 0, k, f', acc, h1, h2, h3 => by omega
  | f + 1, k, f', acc, h1, h2, h3 => by
    obtain ⟨g, rfl⟩ : ∃ g, f' = g + 1 := ⟨f' - 1, by omega⟩
    have ri := R2.isP_rl hs k [0] (fun h => by cases h)
    have rw1 := R2.wantP_rl hs k [1] (fun h => by cases h)
    have rr := R2.ruleP_rl hs k
    rw [progGo]
    rcases hi : isP S k [0] with e | z
    · obtain ⟨j, _, _, _, h⟩ := ri.2 e hi
      have h := h.resolve_left id
      have hx : progGo S' (g + 1) (k + d) (rs ++ acc) = .error (e.1, (S'.tok (j + d)).at_) := by rw [progGo, h]; rfl
      exact ⟨fun e' _ => ⟨_, hx⟩, fun r hr => by cases hr⟩
    · have hi' := (ri.1 z hi).2.resolve_left id
      cases z with
      | true =>
        have hx : progGo S' (g + 1) (k + d) (rs ++ acc) = .ok (rs ++ acc, k + d) := by rw [progGo, hi']; rfl
        refine ⟨fun e he => (by cases he), fun r hr => ?_⟩
        cases hr
        exact ⟨fun _ => hx, fun hc => by simp only at hc; omega⟩
      | false =>
        rw [bind_ok', if_neg (by decide)]
        rcases hw : wantP S k [1] with e | u
        · obtain ⟨j, _, _, _, h⟩ := rw1.2 e hw
          have h := h.resolve_left id
          have hx : progGo S' (g + 1) (k + d) (rs ++ acc) = .error (e.1, (S'.tok (j + d)).at_) := by rw [progGo, hi', bind_ok', if_neg (by decide), h]; rfl
          exact ⟨fun e' _ => ⟨_, hx⟩, fun r hr => by cases hr⟩
        · have hw' := (rw1.1 u hw).2.resolve_left id
          rw [bind_ok']
          by_cases hfull : rs.length + acc.length = 1024
          · have hx : progGo S' (g + 1) (k + d) (rs ++ acc) = .error (81, (S'.tok (k + d)).at_) := by
              rw [progGo, hi', bind_ok', if_neg (by decide), hw', bind_ok', if_pos (by rw [List.length_append]; exact hfull)]
            refine ⟨fun e' _ => ⟨_, hx⟩, fun r hr => ⟨fun hc => ?_, fun _ => ⟨_, hx⟩⟩⟩
            split at hr
            · cases hr
            · obtain ⟨q, hq, hr⟩ := bind_inv hr
              have := progGo_len hr
              simp at this
              omega
          · rw [if_neg (by omega)]
            rcases hr : ruleP S k with e | q
            · obtain ⟨j, _, _, _, h⟩ := rr.2 e hr
              have h := h.resolve_left id
              have hx : progGo S' (g + 1) (k + d) (rs ++ acc) = .error (e.1, (S'.tok (j + d)).at_) := by
                rw [progGo, hi', bind_ok', if_neg (by decide), hw', bind_ok', if_neg (by rw [List.length_append]; omega), h]; rfl
              exact ⟨fun e' _ => ⟨_, hx⟩, fun r hr => by cases hr⟩
            · have hr' := (rr.1 q hr).2.resolve_left id
              have hx : progGo S' (g + 1) (k + d) (rs ++ acc) = progGo S' g (q.2.1 + d) (rs ++ (acc ++ [q.1])) := by
                rw [progGo, hi', bind_ok', if_neg (by decide), hw', bind_ok', if_neg (by rw [List.length_append]; omega), hr', bind_ok', List.append_assoc]; rfl
              rw [hx, bind_ok']
              exact behind_p hs rs f q.2.1 g (acc ++ [q.1]) (by simp; omega) (by simp; omega) (by simp; omega)
end
theorem tok_app {S : Toks} {a b : List Tok} (h : S.ts = a ++ b) (k : Nat) : (k < a.length → S.tok k = a.getD k ⟨0, emptyB, 0⟩) ∧ (∀ i, k = i + a.length → S.tok k = b.getD i ⟨0, emptyB, S.fin⟩) := by
  constructor
  · intro hk
    unfold Toks.tok
    rw [h, List.getD_eq_getElem?_getD, List.getD_eq_getElem?_getD, List.getElem?_append_left hk, List.getElem?_eq_getElem hk]; rfl
  · rintro i rfl
    unfold Toks.tok
    rw [h, List.getD_eq_getElem?_getD, List.getD_eq_getElem?_getD, List.getElem?_append_right (by omega), Nat.add_sub_cancel]
/-- P8.5: two texts, side by side -/
theorem side_reads {s o t : ByteArray} {rs : List Rm} (ht : t.data.toList = s.data.toList ++ 10 :: o.data.toList) (h : readL s progP = .ok rs) (hsz : t.size ≤ 65536) :
    (∀ e, readL o progP = .error e → ∃ e', readL t progP = .error e') ∧
    (∀ qs, readL o progP = .ok qs → (rs.length + qs.length ≤ 1024 → readL t progP = .ok (rs ++ qs)) ∧ (1024 < rs.length + qs.length → ∃ e', readL t progP = .error e')) := by
  obtain ⟨_, k, hp, hw⟩ := prog_inv h
  obtain ⟨hk, hf⟩ := prog_fault (rs := rs) hw
  have hl := scanL_line ht hf
  have hto : o.size < t.size := by
    have := congrArg List.length ht
    rw [List.length_append, List.length_cons, ← Lib.size_eq, ← Lib.size_eq, ← Lib.size_eq] at this
    omega
  have e1 : (toksOf t).ts = (toksOf s).ts ++ (toksOf o).ts.map (shT (s.size + 1)) := by
    show (scanL t).1 = _
    rw [hl]; rfl
  have e2 : (toksOf t).fault = (toksOf o).fault := by
    show (scanL t).2.2 = _
    rw [hl]; rfl
  have hs1 : R2.Sim (toksOf s) (toksOf t) 0 (some (toksOf s).ts.length) false := by
    have hin : ∀ k, ¬ R2.late (some (toksOf s).ts.length) k → k < (toksOf s).ts.length := fun k h => by
      have h' : ¬ (toksOf s).ts.length ≤ k := h
      omega
    have hk : ∀ k, k < (toksOf s).ts.length → (toksOf t).tok k = (toksOf s).tok k := fun k hk => by
      rw [(tok_app e1 k).1 hk, tok_in hk, List.getD_eq_getElem?_getD, List.getElem?_eq_getElem hk]; rfl
    refine ⟨fun k h => .inl (by rw [Nat.add_zero, hk k (hin k h)]), fun k h => by rw [Nat.add_zero, hk k (hin k h)], fun k h => ?_, fun k h hb => ?_⟩
    · have := hin k h
      rw [Nat.add_zero, not_bad this, not_bad (by rw [e1, List.length_append]; omega)]
    · have := hin k h
      rw [not_bad this] at hb; cases hb
  have hs2 : R2.Sim (toksOf o) (toksOf t) (toksOf s).ts.length none false := by
    have hk : ∀ k, ((toksOf t).tok (k + (toksOf s).ts.length)).kind = ((toksOf o).tok k).kind ∧ ((toksOf t).tok (k + (toksOf s).ts.length)).text = ((toksOf o).tok k).text := fun k => by
      rw [(tok_app e1 _).2 k rfl]
      by_cases hk : k < (toksOf o).ts.length
      · rw [tok_in hk, List.getD_eq_getElem?_getD, List.getElem?_map, List.getElem?_eq_getElem hk]
        exact ⟨rfl, rfl⟩
      · rw [tok_out (by omega), List.getD_eq_getElem?_getD, List.getElem?_map, List.getElem?_eq_none (by omega)]
        exact ⟨rfl, rfl⟩
    refine ⟨fun k _ => .inl (hk k).1, fun k _ => (hk k).2, fun k _ => ?_, fun k _ _ => e2⟩
    unfold Toks.bad
    rw [e2, e1, List.length_append, List.length_map]
    congr 1
    simp
    omega
  obtain ⟨hk0, f', hf', ha⟩ := ahead_p hs1 (toksOf_wf s) 1025 0 [] rs k (Nat.zero_le _) (by simp) hp
  have hrs := (prog_small h).1
  have hb := behind_p hs2 rs 1025 0 f' [] (by simp) (by simp; omega) (by simp; omega)
  rw [Nat.zero_add, List.append_nil, ← hk0] at hb
  have hpt : progP (toksOf t) = progGo (toksOf t) f' k rs := ha
  constructor
  · intro e he
    unfold readL at he
    rw [if_neg (by omega)] at he
    unfold wholeP at he
    rcases bind_err_inv he with he | ⟨x, hx, he⟩
    · obtain ⟨e', he'⟩ := hb.1 e he
      refine ⟨e', ?_⟩
      unfold readL
      rw [if_neg (by omega)]
      unfold wholeP
      rw [hpt, he']; rfl
    · exfalso
      rw [progP_end hx] at he
      cases he
  · intro qs hq
    obtain ⟨_, k2, hq2, hw2⟩ := prog_inv hq
    obtain ⟨h1, h2⟩ := hb.2 _ hq2
    constructor
    · intro hn
      have h1 := h1 hn
      unfold readL
      rw [if_neg (by omega)]
      unfold wholeP
      rw [hpt, h1, bind_ok']
      have := ((R2.wantP_rl hs2 k2 [0] (fun h => by cases h)).1 _ hw2).2.resolve_left id
      rw [← hk0] at this
      simp only
      rw [this]; rfl
    · intro hn
      obtain ⟨e', he'⟩ := h2 hn
      refine ⟨e', ?_⟩
      unfold readL
      rw [if_neg (by omega)]
      unfold wholeP
      rw [hpt, he']; rfl
end Go.Proofs.YtgplagdehfhffaaDoor
