/-
  The plain law of reading: a row of tokens, what is read of it, and where it goes wrong.
-/
import Derived.Test.YtphgglnkdfndiaaDoorLexG
import Derived.Test.YtphgglnkdfndiaaDoorMayL
namespace Go.Proofs.YtphgglnkdfndiaaDoor
open Go Go.RowKit Go.Mine
set_option linter.unusedVariables false

/-- a row of tokens, what is wrong behind them (0: nothing), and where they end -/
structure Toks where
  ts : List Tok
  fault : Nat
  fin : Nat
def Toks.tok (S : Toks) (k : Nat) : Tok := S.ts.getD k ⟨0, emptyB, S.fin⟩
def Toks.bad (S : Toks) (k : Nat) : Bool := decide (S.ts.length ≤ k) && decide (S.fault ≠ 0)
/-- what is read, or the error and its place -/
abbrev PR (α : Type) := Except (Nat × Nat) α
def isP (S : Toks) (k : Nat) (ks : List Nat) : PR Bool := if S.bad k = true then .error (S.fault, (S.tok k).at_) else .ok (ks.contains (S.tok k).kind)
def wantP (S : Toks) (k : Nat) (ks : List Nat) : PR Unit := (isP S k ks).bind fun b => if b = true then .ok () else .error (80, (S.tok k).at_)
def wordP (S : Toks) (k : Nat) (ks : List Nat) : PR (ByteArray × Nat) := (wantP S k ks).bind fun _ => if 4096 < (S.tok k).text.size then .error (84, (S.tok k).at_) else .ok ((S.tok k).text, k + 1)
def markP (S : Toks) (k : Nat) (c : Nat) : PR Nat := (wantP S k [c]).bind fun _ => .ok (k + 1)
def varL (s : ByteArray) : Tm := if s = blankB then ⟨2, emptyB⟩ else ⟨1, s⟩
def termP (S : Toks) (k : Nat) : PR (Tm × Nat) := (isP S k [2]).bind fun g =>
  if g = true then (wordP S k [2]).bind fun r => .ok (varL r.1, r.2) else (wordP S k [1, 3]).bind fun r => .ok (⟨3, r.1⟩, r.2)
def wCount : ByteArray := ⟨#[99, 111, 117, 110, 116]⟩
def wSum : ByteArray := ⟨#[115, 117, 109]⟩
def wMin : ByteArray := ⟨#[109, 105, 110]⟩
def wMax : ByteArray := ⟨#[109, 97, 120]⟩
def aggL (s : ByteArray) : Nat := if s = wCount then 4 else if s = wSum then 5 else if s = wMin then 6 else if s = wMax then 7 else 0
def partP (S : Toks) (k : Nat) (agg : Bool) : PR (Tm × Nat × Bool) :=
  (isP S k [1]).bind fun small => (termP S k).bind fun r =>
    if small = false ∨ aggL r.1.text = 0 ∨ agg = true then .ok (r.1, r.2, agg) else
      (isP S r.2 [4]).bind fun o => if o = false then .ok (r.1, r.2, agg) else
        if aggL r.1.text = 4 then (markP S (r.2 + 1) 5).bind fun k2 => .ok (⟨4, emptyB⟩, k2, true)
        else (isP S (r.2 + 1) [2]).bind fun g => if g = true ∧ (S.tok (r.2 + 1)).text = blankB then .error (80, (S.tok (r.2 + 1)).at_) else
          (wordP S (r.2 + 1) [2]).bind fun q => (markP S q.2 5).bind fun k3 => .ok (⟨aggL r.1.text, q.1⟩, k3, true)
def oneP (head : Bool) (S : Toks) (k : Nat) (agg : Bool) : PR (Tm × Nat × Bool) :=
  if head = true then partP S k agg else (termP S k).bind fun r => .ok (r.1, r.2, agg)
/-- terms from an opening mark or a comma on -/
def termsGo (head : Bool) (S : Toks) : Nat → Nat → Bool → List Tm → PR (List Tm × Nat × Bool)
  | 0, _, _, _ => .error (0, 0)
  | f + 1, k, agg, acc => (wantP S (k + 1) [1, 2, 3]).bind fun _ => if acc.length = 64 then .error (83, (S.tok (k + 1)).at_) else
      (oneP head S (k + 1) agg).bind fun r => (isP S r.2.1 [6]).bind fun c => if c = true then termsGo head S f r.2.1 r.2.2 (acc ++ [r.1]) else .ok (acc ++ [r.1], r.2.1, r.2.2)
def termsP (head : Bool) (S : Toks) (k : Nat) (agg : Bool) : PR (List Tm × Nat × Bool) :=
  (isP S k [4]).bind fun o => if o = false then .ok ([], k, agg) else
    (termsGo head S 65 k agg []).bind fun r => (markP S r.2.1 5).bind fun k3 => .ok (r.1, k3, r.2.2)
def atomP (head : Bool) (S : Toks) (k : Nat) (agg : Bool) : PR (Am × Nat × Bool) :=
  (wordP S k [1]).bind fun r => (termsP head S r.2 agg).bind fun q => .ok (⟨r.1, q.1⟩, q.2.1, q.2.2)
def tm0 : Tm := ⟨0, emptyB⟩
def opsK : List Nat := [10, 11, 12, 13]
def cmpP (S : Toks) (k : Nat) (t : Tm) : PR (Lm × Nat) :=
  (wantP S k opsK).bind fun _ => (termP S (k + 1)).bind fun r => .ok (⟨3, ⟨emptyB, []⟩, (S.tok k).kind - 9, t, r.1⟩, r.2)
def litP (S : Toks) (k : Nat) (agg : Bool) : PR (Lm × Nat) :=
  (isP S k [9]).bind fun n => if n = true then (atomP false S (k + 1) agg).bind fun r => .ok (⟨2, r.1, 0, tm0, tm0⟩, r.2.1) else
    (isP S k [1]).bind fun small => (termP S k).bind fun r =>
      if small = true then (isP S r.2 opsK).bind fun o => if o = true then cmpP S r.2 r.1 else
        (termsP false S r.2 agg).bind fun q => .ok (⟨1, ⟨r.1.text, q.1⟩, 0, tm0, tm0⟩, q.2.1)
      else cmpP S r.2 r.1
def bodyGo (S : Toks) (agg : Bool) : Nat → Nat → List Lm → PR (List Lm × Nat)
  | 0, _, _ => .error (0, 0)
  | f + 1, k, acc => (wantP S (k + 1) [1, 2, 3, 9]).bind fun _ => if acc.length = 64 then .error (82, (S.tok (k + 1)).at_) else
      (litP S (k + 1) agg).bind fun r => (isP S r.2 [6]).bind fun c => if c = true then bodyGo S agg f r.2 (acc ++ [r.1]) else .ok (acc ++ [r.1], r.2)
def bodyP (S : Toks) (k : Nat) (agg : Bool) : PR (List Lm × Nat) := (isP S k [8]).bind fun o => if o = true then bodyGo S agg 65 k [] else .ok ([], k)
def ruleP (S : Toks) (k : Nat) : PR (Rm × Nat × Bool) :=
  (atomP true S k false).bind fun h => (bodyP S h.2.1 h.2.2).bind fun b => (markP S b.2 7).bind fun k3 => .ok (⟨h.1, b.1⟩, k3, h.2.2)
def progGo (S : Toks) : Nat → Nat → List Rm → PR (List Rm × Nat)
  | 0, _, _ => .error (0, 0)
  | f + 1, k, acc => (isP S k [0]).bind fun z => if z = true then .ok (acc, k) else (wantP S k [1]).bind fun _ => if acc.length = 1024 then .error (81, (S.tok k).at_) else
      (ruleP S k).bind fun r => progGo S f r.2.1 (acc ++ [r.1])
def progP (S : Toks) : PR (List Rm × Nat) := progGo S 1025 0 []
/-- all of it -/
def wholeP {α : Type} (S : Toks) (r : PR (α × Nat)) : PR α := r.bind fun x => (wantP S x.2 [0]).bind fun _ => .ok x.1
def toksOf (s : ByteArray) : Toks := ⟨(scanL s).1, (scanL s).2.2, if (scanL s).2.2 = 0 then s.size else (scanL s).2.1⟩
def readL {α : Type} (s : ByteArray) (one : Toks → PR (α × Nat)) : PR α := if 65536 < s.size then .error (3, 0) else wholeP (toksOf s) (one (toksOf s))
def ruleOne (S : Toks) : PR (Rm × Nat) := (ruleP S 0).bind fun r => .ok (r.1, r.2.1)
def atomOne (S : Toks) : PR (Am × Nat) := (atomP false S 0 false).bind fun r => .ok (r.1, r.2.1)

section
variable {S : Toks} {k : Nat} {ks : List Nat}
theorem tok_in (h : k < S.ts.length) : S.tok k = S.ts[k] := by unfold Toks.tok; rw [List.getD_eq_getElem?_getD, List.getElem?_eq_getElem h]; rfl
theorem tok_out (h : S.ts.length ≤ k) : S.tok k = ⟨0, emptyB, S.fin⟩ := by unfold Toks.tok; rw [List.getD_eq_getElem?_getD, List.getElem?_eq_none h]; rfl
theorem isP_ok {b : Bool} (h : isP S k ks = .ok b) : S.bad k = false ∧ ks.contains (S.tok k).kind = b := by
  unfold isP at h
  split at h
  · cases h
  · rename_i hb
    cases h
    exact ⟨by simpa using hb, rfl⟩
theorem isP_err {e : Nat × Nat} (h : isP S k ks = .error e) : S.bad k = true ∧ e = (S.fault, (S.tok k).at_) := by
  unfold isP at h
  split at h
  · rename_i hb; cases h; exact ⟨hb, rfl⟩
  · cases h
theorem in_of {b : Bool} (h : ks.contains (S.tok k).kind = true) (h0 : ks.contains 0 = false) : k < S.ts.length := by
  by_cases hk : k < S.ts.length
  · exact hk
  · rw [tok_out (by omega)] at h
    rw [h0] at h; cases h
end
end Go.Proofs.YtphgglnkdfndiaaDoor
/-
  The plain law of reading, as the document's answer goes about it: a token on which lex fell stands in the list with a kind of its own.
-/
namespace Go.Proofs.YtphgglnkdfndiaaDoor
open Go Go.RowKit Go.Mine
set_option linter.unusedVariables false

/-- marks bear no text -/
structure Toks.Wf (S : Toks) : Prop where
  kinds : ∀ t ∈ S.ts, 1 ≤ t.kind ∧ t.kind ≤ 13
  marks : ∀ t ∈ S.ts, 4 ≤ t.kind → t.text = emptyB
  fault : S.fault ≤ 100
theorem bind_ok' {ε α β : Type} (a : α) (f : α → Except ε β) : (Except.ok a : Except ε α).bind f = f a := rfl
theorem bind_err' {ε α β : Type} (e : ε) (f : α → Except ε β) : (Except.error e : Except ε α).bind f = .error e := rfl
section
variable {S : Toks} {k : Nat}
theorem Toks.Wf.tok (h : S.Wf) (k : Nat) : (S.tok k).kind ≤ 13 ∧ (4 ≤ (S.tok k).kind → (S.tok k).text = emptyB) ∧ (k < S.ts.length → 1 ≤ (S.tok k).kind) := by
  by_cases hk : k < S.ts.length
  · rw [tok_in hk]
    have hm := List.getElem_mem hk
    exact ⟨(h.kinds _ hm).2, h.marks _ hm, fun _ => (h.kinds _ hm).1⟩
  · rw [tok_out (by omega)]
    exact ⟨by simp, by simp, fun h => absurd h hk⟩
theorem wantP_ok {ks : List Nat} (hb : S.bad k = false) (h : ks.contains (S.tok k).kind = true) : wantP S k ks = .ok () := by
  unfold wantP isP
  rw [hb, if_neg (by simp), h]; rfl
theorem wantP_no {ks : List Nat} (hb : S.bad k = false) (h : ks.contains (S.tok k).kind = false) : wantP S k ks = .error (80, (S.tok k).at_) := by
  unfold wantP isP
  rw [hb, if_neg (by simp), h]; rfl
theorem wantP_bad {ks : List Nat} (hb : S.bad k = true) : wantP S k ks = .error (S.fault, (S.tok k).at_) := by
  unfold wantP isP
  rw [hb, if_pos rfl]; rfl
theorem isP_bad {ks : List Nat} (hb : S.bad k = true) : isP S k ks = .error (S.fault, (S.tok k).at_) := by
  unfold isP
  rw [hb, if_pos rfl]
theorem isP_val {ks : List Nat} (hb : S.bad k = false) : isP S k ks = .ok (ks.contains (S.tok k).kind) := by
  unfold isP
  rw [hb, if_neg (by simp)]
theorem wordP_bad {ks : List Nat} (hb : S.bad k = true) : wordP S k ks = .error (S.fault, (S.tok k).at_) := by
  unfold wordP; rw [wantP_bad hb]; rfl
theorem wordP_no {ks : List Nat} (hb : S.bad k = false) (h : ks.contains (S.tok k).kind = false) : wordP S k ks = .error (80, (S.tok k).at_) := by
  unfold wordP; rw [wantP_no hb h]; rfl
theorem wordP_long {ks : List Nat} (hb : S.bad k = false) (h : ks.contains (S.tok k).kind = true) (hl : 4096 < (S.tok k).text.size) : wordP S k ks = .error (84, (S.tok k).at_) := by
  unfold wordP; rw [wantP_ok hb h]
  try simp only [bind_ok']
  rw [if_pos hl]
theorem wordP_yes {ks : List Nat} (hb : S.bad k = false) (h : ks.contains (S.tok k).kind = true) (hl : ¬ 4096 < (S.tok k).text.size) : wordP S k ks = .ok ((S.tok k).text, k + 1) := by
  unfold wordP; rw [wantP_ok hb h]
  try simp only [bind_ok']
  rw [if_neg hl]
theorem wordP_ok {ks : List Nat} {r : ByteArray × Nat} (h : wordP S k ks = .ok r) : S.bad k = false ∧ ks.contains (S.tok k).kind = true ∧ (S.tok k).text.size ≤ 4096 ∧ r = ((S.tok k).text, k + 1) := by
  cases hb : S.bad k with
  | true => rw [wordP_bad hb] at h; cases h
  | false =>
    cases hc : ks.contains (S.tok k).kind with
    | false => rw [wordP_no hb hc] at h; cases h
    | true =>
      by_cases hl : 4096 < (S.tok k).text.size
      · rw [wordP_long hb hc hl] at h; cases h
      · rw [wordP_yes hb hc hl] at h; cases h
        exact ⟨rfl, rfl, by omega, rfl⟩
/-- a mark read as a word -/
theorem markP_word (hw : S.Wf) {c : Nat} (hc : 4 ≤ c) : markP S k c = (wordP S k [c]).bind fun r => .ok r.2 := by
  unfold markP
  cases hb : S.bad k with
  | true => rw [wantP_bad hb, wordP_bad hb]; rfl
  | false =>
    cases h : ([c] : List Nat).contains (S.tok k).kind with
    | false => rw [wantP_no hb h, wordP_no hb h]; rfl
    | true =>
      have e : (S.tok k).kind = c := by simpa using h
      have ht := (hw.tok k).2.1 (by omega)
      rw [wantP_ok hb h, wordP_yes hb h (by rw [ht]; decide)]; rfl

/-- a part of a head, as the document has it: what stands behind the word is looked at, wrong or not -/
def aggAt (S : Toks) (k : Nat) (agg : Bool) : Nat := if (S.tok k).kind = 1 ∧ (S.tok (k + 1)).kind = 4 ∧ agg = false then aggL (S.tok k).text else 0
def partR (S : Toks) (k : Nat) (agg : Bool) : PR (Tm × Nat × Bool) :=
  if aggAt S k agg = 0 then (termP S k).bind fun r => .ok (r.1, r.2, agg)
  else if aggAt S k agg = 4 then (wordP S (k + 2) [5]).bind fun z => .ok (⟨4, emptyB⟩, z.2, true)
  else if S.bad (k + 2) = false ∧ (S.tok (k + 2)).kind = 2 ∧ (S.tok (k + 2)).text = blankB then .error (80, (S.tok (k + 2)).at_)
  else (wordP S (k + 2) [2]).bind fun q => (wordP S q.2 [5]).bind fun z => .ok (⟨aggAt S k agg, q.1⟩, z.2, true)
theorem aggL_len {s : ByteArray} (h : aggL s ≠ 0) : s.size ≤ 5 := by
  unfold aggL at h
  repeat' split at h
  all_goals first | (rename_i he; subst he; decide) | exact absurd rfl h
/-- an error at a token on which lex fell comes up in whatever is done there -/
def Bears (S : Toks) {α β : Type} (pos : α → Nat) (f : α → PR β) : Prop := ∀ a, S.bad (pos a) = true → f a = .error (S.fault, (S.tok (pos a)).at_)
theorem bad_kind (h : S.bad k = true) : (S.tok k).kind = 0 := by
  unfold Toks.bad at h
  rw [tok_out (by simp at h; exact h.1)]
theorem not_bad (h : k < S.ts.length) : S.bad k = false := by
  unfold Toks.bad
  rw [decide_eq_false (by omega)]; rfl
theorem in_kind (h : (S.tok k).kind ≠ 0) : k < S.ts.length := by
  by_cases hk : k < S.ts.length
  · exact hk
  · exact absurd (by rw [tok_out (by omega)]) h
theorem termP_small (h1 : (S.tok k).kind = 1) (hl : (S.tok k).text.size ≤ 4096) : termP S k = .ok (⟨3, (S.tok k).text⟩, k + 1) := by
  have hb := not_bad (in_kind (S := S) (k := k) (by omega))
  unfold termP
  rw [isP_val hb, h1]
  try simp only [bind_ok']
  rw [if_neg (by decide), wordP_yes hb (by rw [h1]; decide) (by omega)]; rfl
theorem part_eq (hw : S.Wf) {agg : Bool} {β : Type} {f : Tm × Nat × Bool → PR β} (hf : Bears S (fun a => a.2.1) f) : (partR S k agg).bind f = (partP S k agg).bind f := by
  unfold partP
  cases hb : S.bad k with
  | true =>
    have h0 := bad_kind hb
    unfold partR
    have : aggAt S k agg = 0 := by unfold aggAt; rw [if_neg (by omega)]
    rw [if_pos this, isP_bad hb]
    unfold termP
    rw [isP_bad hb]; rfl
  | false =>
    rw [isP_val hb]
    by_cases h1 : (S.tok k).kind = 1
    · have e1 : ([1] : List Nat).contains (S.tok k).kind = true := by rw [h1]; decide
      rw [e1]
      by_cases hl : (S.tok k).text.size ≤ 4096
      · have ht := termP_small (S := S) (k := k) h1 hl
        rw [ht]
        try simp only [bind_ok']
        simp only [Bool.true_eq_false, false_or]
        by_cases ha : aggL (S.tok k).text = 0 ∨ agg = true
        · rw [if_pos ha]
          have : aggAt S k agg = 0 := by
            unfold aggAt
            rcases ha with ha | ha
            · split
              · exact ha
              · rfl
            · rw [if_neg (by simp [ha])]
          unfold partR
          rw [if_pos this, ht]; rfl
        · rw [if_neg ha]
          have ha1 : aggL (S.tok k).text ≠ 0 := fun h => ha (.inl h)
          have ha2 : agg = false := by cases agg <;> simp_all
          cases hb2 : S.bad (k + 1) with
          | true =>
            have : aggAt S k agg = 0 := by unfold aggAt; rw [if_neg (by have := bad_kind hb2; omega)]
            rw [isP_bad hb2]
            unfold partR
            rw [if_pos this, ht]
            exact hf _ hb2
          | false =>
            rw [isP_val hb2]
            by_cases h4 : (S.tok (k + 1)).kind = 4
            · have e4 : ([4] : List Nat).contains (S.tok (k + 1)).kind = true := by rw [h4]; decide
              rw [e4]
              have hA : aggAt S k agg = aggL (S.tok k).text := by unfold aggAt; rw [if_pos ⟨h1, h4, ha2⟩]
              unfold partR
              rw [hA, if_neg ha1]
              try simp only [bind_ok']
              rw [if_neg (show ¬ (true = false) by simp)]
              by_cases hc : aggL (S.tok k).text = 4
              · rw [if_pos hc, if_pos hc, markP_word hw (by omega)]
                cases wordP S (k + 1 + 1) [5] <;> rfl
              · rw [if_neg hc, if_neg hc]
                cases hb3 : S.bad (k + 1 + 1) with
                | true =>
                  rw [if_neg (by simp), wordP_bad hb3, isP_bad hb3]; rfl
                | false =>
                  rw [isP_val hb3, bind_ok']
                  by_cases hh : (S.tok (k + 1 + 1)).kind = 2 ∧ (S.tok (k + 1 + 1)).text = blankB
                  · rw [if_pos ⟨rfl, hh⟩, if_pos ⟨by simp [hh.1], hh.2⟩]
                  · rw [if_neg (fun h => hh h.2), if_neg (fun h => hh ⟨by simpa using h.1, h.2⟩)]
                    congr 1
                    congr 1
                    funext q
                    rw [markP_word hw (by omega)]
                    cases wordP S q.2 [5] <;> rfl
            · have e4 : ([4] : List Nat).contains (S.tok (k + 1)).kind = false := by simp; omega
              rw [e4]
              have hA : aggAt S k agg = 0 := by unfold aggAt; rw [if_neg (by simp [h4])]
              unfold partR
              rw [if_pos hA, ht]; rfl
      · have hA : aggAt S k agg = 0 := by
          unfold aggAt
          split
          · by_cases h : aggL (S.tok k).text = 0
            · exact h
            · have := aggL_len h; omega
          · rfl
        unfold partR
        rw [if_pos hA]
        unfold termP
        rw [isP_val hb, h1]
        try simp only [bind_ok']
        rw [if_neg (by decide), wordP_long hb (by rw [h1]; decide) (by omega)]; rfl
    · have e1 : ([1] : List Nat).contains (S.tok k).kind = false := by simp; omega
      rw [e1]
      have hA : aggAt S k agg = 0 := by unfold aggAt; rw [if_neg (by simp [h1])]
      unfold partR
      rw [if_pos hA]
      cases termP S k with
      | error x => rfl
      | ok r =>
        try simp only [bind_ok']
        rw [if_pos (Or.inl (by trivial))]; rfl

def oneR (head : Bool) (S : Toks) (k : Nat) (agg : Bool) : PR (Tm × Nat × Bool) := if head = true then partR S k agg else (termP S k).bind fun r => .ok (r.1, r.2, agg)
theorem one_eq (hw : S.Wf) {head agg : Bool} {β : Type} {f : Tm × Nat × Bool → PR β} (hf : Bears S (fun a => a.2.1) f) : (oneR head S k agg).bind f = (oneP head S k agg).bind f := by
  unfold oneR oneP
  cases head with
  | true => simp only [if_true]; exact part_eq hw hf
  | false => rfl
theorem word_bears {α β : Type} {pos : α → Nat} {ks : List Nat} {g : α → ByteArray × Nat → PR β} : Bears S pos (fun a => (wordP S (pos a) ks).bind (g a)) := fun a h => by
  show (wordP S (pos a) ks).bind _ = _
  rw [wordP_bad h]; rfl
theorem is_bears {α β : Type} {pos : α → Nat} {ks : List Nat} {g : α → Bool → PR β} : Bears S pos (fun a => (isP S (pos a) ks).bind (g a)) := fun a h => by
  show (isP S (pos a) ks).bind _ = _
  rw [isP_bad h]; rfl
theorem want_bears {α β : Type} {pos : α → Nat} {ks : List Nat} {g : α → Unit → PR β} : Bears S pos (fun a => (wantP S (pos a) ks).bind (g a)) := fun a h => by
  show (wantP S (pos a) ks).bind _ = _
  rw [wantP_bad h]; rfl
theorem bind_assoc' {ε α β γ : Type} (x : Except ε α) (f : α → Except ε β) (g : β → Except ε γ) : (x.bind f).bind g = x.bind fun a => (f a).bind g := by cases x <;> rfl
theorem bind_congr' {ε α β : Type} {x : Except ε α} {f g : α → Except ε β} (h : ∀ a, x = .ok a → f a = g a) : x.bind f = x.bind g := by
  cases x with
  | error e => rfl
  | ok a => exact h a rfl

/-- terms from an opening mark or a comma on, as the document has it -/
def termsGoR (head : Bool) (S : Toks) : Nat → Nat → Bool → List Tm → PR (List Tm × Nat × Bool)
  | 0, _, _, _ => .error (0, 0)
  | f + 1, k, agg, acc => (wantP S (k + 1) [1, 2, 3]).bind fun _ => if acc.length = 64 then .error (83, (S.tok (k + 1)).at_) else
      (oneR head S (k + 1) agg).bind fun r => if (S.tok r.2.1).kind = 6 then termsGoR head S f r.2.1 r.2.2 (acc ++ [r.1]) else .ok (acc ++ [r.1], r.2.1, r.2.2)
theorem termsGo_eq (hw : S.Wf) {head : Bool} {β : Type} {F : List Tm × Nat × Bool → PR β} (hF : Bears S (fun a => a.2.1) F) : ∀ (f k : Nat) (agg : Bool) (acc : List Tm), (termsGoR head S f k agg acc).bind F = (termsGo head S f k agg acc).bind F
  | 0, _, _, _ => rfl
  | f + 1, k, agg, acc => by
    rw [termsGoR, termsGo, bind_assoc', bind_assoc']
    refine bind_congr' fun u hu => ?_
    by_cases hl : acc.length = 64
    · rw [if_pos hl, if_pos hl]
    · rw [if_neg hl, if_neg hl, bind_assoc', bind_assoc']
      have hB : Bears S (fun a : Tm × Nat × Bool => a.2.1) (fun a => (if (S.tok a.2.1).kind = 6 then termsGoR head S f a.2.1 a.2.2 (acc ++ [a.1]) else .ok (acc ++ [a.1], a.2.1, a.2.2)).bind F) := fun a ha => by
        show Except.bind _ F = _
        rw [if_neg (show ¬ (S.tok a.2.1).kind = 6 by have := bad_kind (k := a.2.1) ha; omega)]
        exact hF (acc ++ [a.1], a.2.1, a.2.2) ha
      rw [one_eq hw hB]
      refine bind_congr' fun r hr => ?_
      rw [bind_assoc']
      cases hb : S.bad r.2.1 with
      | true => exact (hB r hb).trans (by rw [isP_bad hb]; rfl)
      | false =>
        rw [isP_val hb]
        try simp only [bind_ok']
        by_cases h6 : (S.tok r.2.1).kind = 6
        · rw [if_pos h6, if_pos (by rw [h6]; decide)]
          exact termsGo_eq hw hF f _ _ _
        · rw [if_neg h6, if_neg (by simp; omega)]
def termsR (head : Bool) (S : Toks) (k : Nat) (agg : Bool) : PR (List Tm × Nat × Bool) :=
  if (S.tok k).kind = 4 then (termsGoR head S 65 k agg []).bind fun q => (wordP S q.2.1 [5]).bind fun z => .ok (q.1, z.2, q.2.2) else .ok ([], k, agg)
theorem terms_eq (hw : S.Wf) {head agg : Bool} {β : Type} {f : List Tm × Nat × Bool → PR β} (hf : Bears S (fun a => a.2.1) f) : (termsR head S k agg).bind f = (termsP head S k agg).bind f := by
  unfold termsR termsP
  by_cases h4 : (S.tok k).kind = 4
  · have hb := not_bad (in_kind (S := S) (k := k) (by omega))
    rw [if_pos h4, isP_val hb, h4]
    try simp only [bind_ok']
    rw [if_neg (by decide), termsGo_eq hw (fun a ha => by rw [wordP_bad ha]; rfl)]
    rw [bind_assoc', bind_assoc']
    refine bind_congr' fun q hq => ?_
    rw [markP_word hw (by omega), bind_assoc', bind_assoc', bind_assoc']
    rfl
  · rw [if_neg h4]
    cases hb : S.bad k with
    | true => rw [isP_bad hb]; exact hf _ hb
    | false =>
      rw [isP_val hb]
      try simp only [bind_ok']
      rw [if_pos (by simp; omega)]; rfl
def atomR (head : Bool) (S : Toks) (k : Nat) (agg : Bool) : PR (Am × Nat × Bool) :=
  (wordP S k [1]).bind fun r => (termsR head S r.2 agg).bind fun q => .ok (⟨r.1, q.1⟩, q.2.1, q.2.2)
theorem atom_eq (hw : S.Wf) {head agg : Bool} {β : Type} {f : Am × Nat × Bool → PR β} (hf : Bears S (fun a => a.2.1) f) : (atomR head S k agg).bind f = (atomP head S k agg).bind f := by
  unfold atomR atomP
  rw [bind_assoc', bind_assoc']
  refine bind_congr' fun r hr => ?_
  rw [bind_assoc', bind_assoc']
  exact terms_eq hw fun a ha => hf (⟨r.1, a.1⟩, a.2.1, a.2.2) ha
def cmpR (S : Toks) (k : Nat) (t : Tm) : PR (Lm × Nat) :=
  (wordP S k opsK).bind fun _ => (termP S (k + 1)).bind fun r => .ok (⟨3, ⟨emptyB, []⟩, (S.tok k).kind - 9, t, r.1⟩, r.2)
theorem cmp_eq (hw : S.Wf) {t : Tm} : cmpR S k t = cmpP S k t := by
  unfold cmpR cmpP
  cases hb : S.bad k with
  | true => rw [wordP_bad hb, wantP_bad hb]; rfl
  | false =>
    cases h : opsK.contains (S.tok k).kind with
    | false => rw [wantP_no hb h, wordP_no hb h]; rfl
    | true =>
      have h4 : 4 ≤ (S.tok k).kind := by
        unfold opsK at h
        simp at h; omega
      have ht := (hw.tok k).2.1 h4
      rw [wantP_ok hb h, wordP_yes hb h (by rw [ht]; decide)]; rfl
def litR (S : Toks) (k : Nat) (agg : Bool) : PR (Lm × Nat) :=
  if (S.tok k).kind = 9 then (atomR false S (k + 1) agg).bind fun r => .ok (⟨2, r.1, 0, tm0, tm0⟩, r.2.1)
  else if (S.tok k).kind = 1 ∧ ¬ (10 ≤ (S.tok (k + 1)).kind ∧ (S.tok (k + 1)).kind ≤ 13) then (atomR false S k agg).bind fun r => .ok (⟨1, r.1, 0, tm0, tm0⟩, r.2.1)
  else (termP S k).bind fun r => cmpR S r.2 r.1
theorem lit_eq (hw : S.Wf) {agg : Bool} {β : Type} {f : Lm × Nat → PR β} (hf : Bears S (fun a => a.2) f) : (litR S k agg).bind f = (litP S k agg).bind f := by
  unfold litP
  cases hb : S.bad k with
  | true =>
    have h0 := bad_kind hb
    unfold litR
    rw [if_neg (by omega), if_neg (by omega), isP_bad hb]
    unfold termP
    rw [isP_bad hb]; rfl
  | false =>
    rw [isP_val hb]
    by_cases h9 : (S.tok k).kind = 9
    · unfold litR
      rw [if_pos h9, h9]
      try simp only [bind_ok']
      rw [if_pos (by decide), bind_assoc', bind_assoc']
      exact atom_eq hw fun a ha => hf (⟨2, a.1, 0, tm0, tm0⟩, a.2.1) ha
    · have e9 : ([9] : List Nat).contains (S.tok k).kind = false := by simp; omega
      rw [e9]
      try simp only [bind_ok']
      rw [if_neg (by decide), isP_val hb]
      by_cases h1 : (S.tok k).kind = 1
      · have e1 : ([1] : List Nat).contains (S.tok k).kind = true := by rw [h1]; decide
        rw [e1]
        show _ = Except.bind (Except.bind _ _) f
        by_cases hl : (S.tok k).text.size ≤ 4096
        · rw [termP_small h1 hl]
          try simp only [bind_ok']
          first | rw [if_pos rfl] | rw [if_pos trivial]
          by_cases ho : 10 ≤ (S.tok (k + 1)).kind ∧ (S.tok (k + 1)).kind ≤ 13
          · unfold litR
            have hb2 := not_bad (in_kind (S := S) (k := k + 1) (by omega))
            rw [if_neg h9, if_neg (fun h => h.2 ho), termP_small h1 hl, isP_val hb2]
            have eo : opsK.contains (S.tok (k + 1)).kind = true := by unfold opsK; simp; omega
            rw [eo]
            show Except.bind (cmpR S (k + 1) _) f = Except.bind (cmpP S (k + 1) _) f
            rw [cmp_eq hw]
          · unfold litR atomR
            rw [if_neg h9, if_pos ⟨h1, ho⟩, wordP_yes hb e1 (by omega)]
            show Except.bind (Except.bind (Except.bind (termsR false S (k + 1) agg) _) _) f = _
            cases hb2 : S.bad (k + 1) with
            | true =>
              rw [isP_bad hb2]
              unfold termsR
              rw [if_neg (by have := bad_kind hb2; omega)]
              exact hf (⟨1, ⟨(S.tok k).text, []⟩, 0, tm0, tm0⟩, k + 1) hb2
            | false =>
              rw [isP_val hb2]
              have eo : opsK.contains (S.tok (k + 1)).kind = false := by unfold opsK; simp; omega
              rw [eo, bind_assoc', bind_assoc']
              show _ = Except.bind (Except.bind (termsP false S (k + 1) agg) _) f
              rw [bind_assoc']
              exact terms_eq hw fun a ha => hf (⟨1, ⟨(S.tok k).text, a.1⟩, 0, tm0, tm0⟩, a.2.1) ha
        · have ht : termP S k = .error (84, (S.tok k).at_) := by
            unfold termP
            rw [isP_val hb, h1]
            try simp only [bind_ok']
            rw [if_neg (by decide), wordP_long hb (by rw [h1]; decide) (by omega)]; rfl
          rw [ht]
          unfold litR
          rw [if_neg h9]
          by_cases ho : 10 ≤ (S.tok (k + 1)).kind ∧ (S.tok (k + 1)).kind ≤ 13
          · rw [if_neg (fun h => h.2 ho), ht]; rfl
          · rw [if_pos ⟨h1, ho⟩]
            unfold atomR
            rw [wordP_long hb e1 (by omega)]; rfl
      · have e1 : ([1] : List Nat).contains (S.tok k).kind = false := by simp; omega
        rw [e1]
        unfold litR
        rw [if_neg h9, if_neg (fun h => h1 h.1)]
        congr 1
        show (termP S k).bind _ = (termP S k).bind _
        refine bind_congr' fun r hr => ?_
        rw [if_neg (by decide), cmp_eq hw]
def bodyGoR (S : Toks) (agg : Bool) : Nat → Nat → List Lm → PR (List Lm × Nat)
  | 0, _, _ => .error (0, 0)
  | f + 1, k, acc => (wantP S (k + 1) [1, 2, 3, 9]).bind fun _ => if acc.length = 64 then .error (82, (S.tok (k + 1)).at_) else
      (litR S (k + 1) agg).bind fun r => if (S.tok r.2).kind = 6 then bodyGoR S agg f r.2 (acc ++ [r.1]) else .ok (acc ++ [r.1], r.2)
theorem bodyGo_eq (hw : S.Wf) {agg : Bool} {β : Type} {F : List Lm × Nat → PR β} (hF : Bears S (fun a => a.2) F) : ∀ (f k : Nat) (acc : List Lm), (bodyGoR S agg f k acc).bind F = (bodyGo S agg f k acc).bind F
  | 0, _, _ => rfl
  | f + 1, k, acc => by
    rw [bodyGoR, bodyGo, bind_assoc', bind_assoc']
    refine bind_congr' fun u hu => ?_
    by_cases hl : acc.length = 64
    · rw [if_pos hl, if_pos hl]
    · rw [if_neg hl, if_neg hl, bind_assoc', bind_assoc']
      have hB : Bears S (fun a : Lm × Nat => a.2) (fun a => (if (S.tok a.2).kind = 6 then bodyGoR S agg f a.2 (acc ++ [a.1]) else .ok (acc ++ [a.1], a.2)).bind F) := fun a ha => by
        show Except.bind _ F = _
        rw [if_neg (show ¬ (S.tok a.2).kind = 6 by have := bad_kind (k := a.2) ha; omega)]
        exact hF (acc ++ [a.1], a.2) ha
      rw [lit_eq hw hB]
      refine bind_congr' fun r hr => ?_
      rw [bind_assoc']
      cases hb : S.bad r.2 with
      | true => exact (hB r hb).trans (by rw [isP_bad hb]; rfl)
      | false =>
        rw [isP_val hb]
        try simp only [bind_ok']
        by_cases h6 : (S.tok r.2).kind = 6
        · rw [if_pos h6, if_pos (by rw [h6]; decide)]
          exact bodyGo_eq hw hF f _ _
        · rw [if_neg h6, if_neg (by simp; omega)]
def bodyR (S : Toks) (k : Nat) (agg : Bool) : PR (List Lm × Nat) := if (S.tok k).kind = 8 then bodyGoR S agg 65 k [] else .ok ([], k)
def ruleR (S : Toks) (k : Nat) : PR (Rm × Nat × Bool) :=
  (atomR true S k false).bind fun h => (bodyR S h.2.1 h.2.2).bind fun b => (wordP S b.2 [7]).bind fun z => .ok (⟨h.1, b.1⟩, z.2, h.2.2)
theorem rule_eq (hw : S.Wf) : ruleR S k = ruleP S k := by
  unfold ruleR ruleP
  have hB : ∀ h : Am × Nat × Bool, Bears S (fun a : List Lm × Nat => a.2) (fun b => (wordP S b.2 [7]).bind fun z => (.ok (⟨h.1, b.1⟩, z.2, h.2.2) : PR (Rm × Nat × Bool))) := fun h a ha => by
    show (wordP S a.2 [7]).bind _ = _
    rw [wordP_bad (k := a.2) ha]; rfl
  rw [atom_eq hw]
  · refine bind_congr' fun h hh => ?_
    unfold bodyR bodyP
    by_cases h8 : (S.tok h.2.1).kind = 8
    · have hb := not_bad (in_kind (S := S) (k := h.2.1) (by omega))
      rw [if_pos h8, isP_val hb, h8]
      try simp only [bind_ok']
      rw [if_pos (by decide), bodyGo_eq hw (hB h)]
      refine bind_congr' fun b hb => ?_
      rw [markP_word hw (by omega), bind_assoc']; rfl
    · rw [if_neg h8]
      cases hb : S.bad h.2.1 with
      | true => rw [isP_bad hb]; exact hB h _ hb
      | false =>
        rw [isP_val hb]
        try simp only [bind_ok']
        rw [if_neg (by simp; omega)]
        show (wordP S h.2.1 [7]).bind _ = (markP S h.2.1 7).bind _
        rw [markP_word hw (by omega), bind_assoc']; rfl
  · intro a ha
    show (bodyR S a.2.1 a.2.2).bind _ = _
    unfold bodyR
    rw [if_neg (by have := bad_kind (k := a.2.1) ha; omega)]
    exact hB a _ ha
end
end Go.Proofs.YtphgglnkdfndiaaDoor
