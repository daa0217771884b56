/-
  The plain laws of which programs may be, and of their texts.
-/
import Derived.Test.YtphgglnkdfndiaaDoorData
import Derived.Test.YtphgglnkdfndiaaDoorBuQ
import Derived.Test.YtphgglnkdfndiaaDoorWrdG
namespace Go.Proofs.YtphgglnkdfndiaaDoor
open Go Go.RowKit Go.Mine
set_option linter.unusedVariables false

def emptyB : ByteArray := ⟨#[]⟩
def blankB : ByteArray := ⟨#[95]⟩
def mayTm (t : Tm) : Int :=
  if t.kind = 3 then (if 4096 < t.text.size then 84 else 0)
  else if t.kind = 2 ∨ t.kind = 4 then (if t.text = emptyB then 0 else 80)
  else if t.kind = 1 ∨ t.kind = 5 ∨ t.kind = 6 ∨ t.kind = 7 then (if t.text = blankB ∨ Word t.text ≠ 2 then 80 else if 4096 < t.text.size then 84 else 0)
  else 80
def mayTs : Bool → List Tm → Int
  | _, [] => 0
  | head, t :: ts =>
    if 4 ≤ t.kind ∧ t.kind ≤ 7 then
      if head = true then (if mayTm t ≠ 0 then mayTm t else mayTs false ts) else 80
    else if mayTm t ≠ 0 then mayTm t else mayTs head ts
def mayAm (head : Bool) (a : Am) : Int :=
  if Word a.pred ≠ 1 then 80 else if 4096 < a.pred.size then 84 else if 64 < a.terms.length then 83 else mayTs head a.terms
def bareL (l : Lm) : Prop := l.op = 0 ∧ (l.left.kind = 0 ∧ l.left.text = emptyB) ∧ (l.right.kind = 0 ∧ l.right.text = emptyB)
def noneL (l : Lm) : Prop := l.atom.pred = emptyB ∧ l.atom.terms = []
instance (l : Lm) : Decidable (bareL l) := by unfold bareL; infer_instance
instance (l : Lm) : Decidable (noneL l) := by
  unfold noneL
  cases l.atom.terms with
  | nil => simp only [and_true]; infer_instance
  | cons t ts => exact isFalse (fun h => by cases h.2)
def mayLm (l : Lm) : Int :=
  if (l.kind = 1 ∨ l.kind = 2) ∧ bareL l then mayAm false l.atom
  else if l.kind ≠ 3 ∨ ¬ noneL l ∨ l.op < 1 ∨ 4 < l.op then 80
  else if 4 ≤ l.left.kind then 80 else if mayTm l.left ≠ 0 then mayTm l.left
  else if 4 ≤ l.right.kind then 80 else mayTm l.right
def mayLs : List Lm → Int
  | [] => 0
  | l :: ls => if mayLm l ≠ 0 then mayLm l else mayLs ls
def mayRm (r : Rm) : Int := if mayAm true r.head ≠ 0 then mayAm true r.head else if 64 < r.body.length then 82 else mayLs r.body
def mayRs : List Rm → Int
  | [] => 0
  | r :: rs => if mayRm r ≠ 0 then mayRm r else mayRs rs
def mayPm (rs : List Rm) : Int := if 1024 < rs.length then 81 else mayRs rs

/-- what a term that may be is, at the least -/
structure OkTm (t : Tm) : Prop where
  lo : 1 ≤ t.kind
  hi : t.kind ≤ 7
  len : t.text.size ≤ 4096
  ne : t.kind = 1 ∨ 5 ≤ t.kind → 0 < t.text.size
theorem Word_pos {s : ByteArray} (h : Word s ≠ 0) : 0 < s.size := by
  by_cases h0 : 0 < s.size
  · exact h0
  · exfalso
    apply h
    have hk : kindL s 0 = 0 := by unfold kindL; rw [if_neg h0]
    unfold Word
    rw [wordL_no hk]
    split <;> rfl
theorem okTm {t : Tm} (h : mayTm t = 0) : OkTm t := by
  unfold mayTm at h
  by_cases h3 : t.kind = 3
  · rw [if_pos h3] at h
    refine ⟨by omega, by omega, ?_, fun hh => by omega⟩
    split at h
    · exact absurd h (by decide)
    · omega
  rw [if_neg h3] at h
  by_cases h2 : t.kind = 2 ∨ t.kind = 4
  · rw [if_pos h2] at h
    by_cases he : t.text = emptyB
    · exact ⟨by omega, by omega, by rw [he]; decide, fun hh => by omega⟩
    · rw [if_neg he] at h; exact absurd h (by decide)
  rw [if_neg h2] at h
  by_cases h1 : t.kind = 1 ∨ t.kind = 5 ∨ t.kind = 6 ∨ t.kind = 7
  · rw [if_pos h1] at h
    by_cases hw : t.text = blankB ∨ Word t.text ≠ 2
    · rw [if_pos hw] at h; exact absurd h (by decide)
    · rw [if_neg hw] at h
      refine ⟨by omega, by omega, ?_, fun _ => Word_pos (fun h0 => hw (.inr (by rw [h0]; decide)))⟩
      split at h
      · exact absurd h (by decide)
      · omega
  · rw [if_neg h1] at h; exact absurd h (by decide)
theorem okTs : ∀ {head : Bool} {ts : List Tm}, mayTs head ts = 0 → ∀ t ∈ ts, OkTm t
  | _, [], _, t, ht => by cases ht
  | head, x :: ts, h, t, ht => by
    rw [mayTs] at h
    by_cases hk : 4 ≤ x.kind ∧ x.kind ≤ 7
    · rw [if_pos hk] at h
      by_cases hh : head = true
      · rw [if_pos hh] at h
        by_cases hm : mayTm x ≠ 0
        · rw [if_pos hm] at h; exact absurd h hm
        · rw [if_neg hm] at h
          rcases List.mem_cons.1 ht with rfl | ht
          · exact okTm (by simpa using hm)
          · exact okTs h t ht
      · rw [if_neg hh] at h; exact absurd h (by decide)
    · rw [if_neg hk] at h
      by_cases hm : mayTm x ≠ 0
      · rw [if_pos hm] at h; exact absurd h hm
      · rw [if_neg hm] at h
        rcases List.mem_cons.1 ht with rfl | ht
        · exact okTm (by simpa using hm)
        · exact okTs h t ht
structure OkAm (a : Am) : Prop where
  ppos : 0 < a.pred.size
  plen : a.pred.size ≤ 4096
  few : a.terms.length ≤ 64
  all : ∀ t ∈ a.terms, OkTm t
theorem okAm {head : Bool} {a : Am} (h : mayAm head a = 0) : OkAm a := by
  unfold mayAm at h
  by_cases h1 : Word a.pred ≠ 1
  · rw [if_pos h1] at h; exact absurd h (by decide)
  rw [if_neg h1] at h
  by_cases h2 : 4096 < a.pred.size
  · rw [if_pos h2] at h; exact absurd h (by decide)
  rw [if_neg h2] at h
  by_cases h3 : 64 < a.terms.length
  · rw [if_pos h3] at h; exact absurd h (by decide)
  rw [if_neg h3] at h
  exact ⟨Word_pos (fun h0 => h1 (by rw [h0]; decide)), by omega, by omega, okTs h⟩
inductive OkLm (l : Lm) : Prop
  | pos (hk : l.kind = 1) (ha : OkAm l.atom)
  | neg (hk : l.kind = 2) (ha : OkAm l.atom)
  | cmp (hk : l.kind = 3) (h1 : 1 ≤ l.op) (h4 : l.op ≤ 4) (hl : OkTm l.left) (hr : OkTm l.right)
theorem okLm {l : Lm} (h : mayLm l = 0) : OkLm l := by
  unfold mayLm at h
  by_cases h1 : (l.kind = 1 ∨ l.kind = 2) ∧ bareL l
  · rw [if_pos h1] at h
    rcases h1.1 with hk | hk
    · exact .pos hk (okAm h)
    · exact .neg hk (okAm h)
  rw [if_neg h1] at h
  by_cases h2 : l.kind ≠ 3 ∨ ¬ noneL l ∨ l.op < 1 ∨ 4 < l.op
  · rw [if_pos h2] at h; exact absurd h (by decide)
  rw [if_neg h2] at h
  have hk : l.kind = 3 := by
    by_cases hk : l.kind = 3
    · exact hk
    · exact absurd (.inl hk) h2
  have ho1 : 1 ≤ l.op := by
    by_cases ho : l.op < 1
    · exact absurd (.inr (.inr (.inl ho))) h2
    · omega
  have ho4 : l.op ≤ 4 := by
    by_cases ho : 4 < l.op
    · exact absurd (.inr (.inr (.inr ho))) h2
    · omega
  by_cases h3 : 4 ≤ l.left.kind
  · rw [if_pos h3] at h; exact absurd h (by decide)
  rw [if_neg h3] at h
  by_cases h4 : mayTm l.left ≠ 0
  · rw [if_pos h4] at h; exact absurd h h4
  rw [if_neg h4] at h
  by_cases h5 : 4 ≤ l.right.kind
  · rw [if_pos h5] at h; exact absurd h (by decide)
  rw [if_neg h5] at h
  exact .cmp hk ho1 ho4 (okTm (by simpa using h4)) (okTm h)
theorem okLs : ∀ {ls : List Lm}, mayLs ls = 0 → ∀ l ∈ ls, OkLm l
  | [], _, l, hl => by cases hl
  | x :: ls, h, l, hl => by
    rw [mayLs] at h
    by_cases hm : mayLm x ≠ 0
    · rw [if_pos hm] at h; exact absurd h hm
    · rw [if_neg hm] at h
      rcases List.mem_cons.1 hl with rfl | hl
      · exact okLm (by simpa using hm)
      · exact okLs h l hl
structure OkRm (r : Rm) : Prop where
  head : OkAm r.head
  few : r.body.length ≤ 64
  all : ∀ l ∈ r.body, OkLm l
theorem okRm {r : Rm} (h : mayRm r = 0) : OkRm r := by
  unfold mayRm at h
  by_cases h1 : mayAm true r.head ≠ 0
  · rw [if_pos h1] at h; exact absurd h h1
  rw [if_neg h1] at h
  by_cases h2 : 64 < r.body.length
  · rw [if_pos h2] at h; exact absurd h (by decide)
  rw [if_neg h2] at h
  exact ⟨okAm (by simpa using h1), by omega, okLs h⟩
theorem okRs : ∀ {rs : List Rm}, mayRs rs = 0 → ∀ r ∈ rs, OkRm r
  | [], _, l, hl => by cases hl
  | x :: rs, h, r, hr => by
    rw [mayRs] at h
    by_cases hm : mayRm x ≠ 0
    · rw [if_pos hm] at h; exact absurd h hm
    · rw [if_neg hm] at h
      rcases List.mem_cons.1 hr with rfl | hr
      · exact okRm (by simpa using hm)
      · exact okRs h r hr
theorem okPm {rs : List Rm} (h : mayPm rs = 0) : rs.length ≤ 1024 ∧ ∀ r ∈ rs, OkRm r := by
  unfold mayPm at h
  by_cases h1 : 1024 < rs.length
  · rw [if_pos h1] at h; exact absurd h (by decide)
  rw [if_neg h1] at h
  exact ⟨by omega, okRs h⟩

/-- pieces, with something ahead of the first and something between -/
def sepT (f s : List UInt8) : List (List UInt8) → List UInt8
  | [] => []
  | x :: xs => f ++ x ++ xs.flatMap (s ++ ·)
theorem sepT_snoc (f s x : List UInt8) (xs : List (List UInt8)) : sepT f s (xs ++ [x]) = sepT f s xs ++ ((if xs = [] then f else s) ++ x) := by
  cases xs with
  | nil => simp [sepT]
  | cons y ys => simp [sepT, List.append_assoc]
theorem sepT_first (f s : List UInt8) {xs : List (List UInt8)} (h : xs ≠ []) : sepT f s xs = f ++ sepT [] s xs := by
  cases xs with
  | nil => exact absurd rfl h
  | cons y ys => simp [sepT, List.append_assoc]
/-- a term's text -/
def tmT (t : Tm) : List UInt8 :=
  if t.kind = 1 then t.text.data.toList else if t.kind = 2 then [95]
  else if t.kind = 3 then (if Word t.text = 1 then t.text.data.toList else quotedL t.text.data.toList)
  else if t.kind = 4 then [99, 111, 117, 110, 116, 40, 41]
  else if t.kind = 5 then [115, 117, 109, 40] ++ t.text.data.toList ++ [41]
  else if t.kind = 6 then [109, 105, 110, 40] ++ t.text.data.toList ++ [41]
  else [109, 97, 120, 40] ++ t.text.data.toList ++ [41]
def amT (a : Am) : List UInt8 := a.pred.data.toList ++ sepT [40] [44, 32] (a.terms.map tmT) ++ (if a.terms.length = 0 then [] else [41])
def opT (o : Int) : List UInt8 := if o = 1 then [32, 61, 32] else if o = 2 then [32, 33, 61, 32] else if o = 3 then [32, 60, 32] else [32, 60, 61, 32]
def lmT (l : Lm) : List UInt8 := if l.kind = 2 then 33 :: amT l.atom else if l.kind = 3 then tmT l.left ++ opT l.op ++ tmT l.right else amT l.atom
def rmT (r : Rm) : List UInt8 := amT r.head ++ sepT [32, 58, 45, 32] [44, 32] (r.body.map lmT) ++ [46]
def pmT (rs : List Rm) : List UInt8 := rs.flatMap fun r => rmT r ++ [10]
/-- the text, and the error of one that is too long -/
def fitT (l : List UInt8) : List UInt8 × Int := if 65536 < l.length then ([], 3) else (l, 0)

theorem sepT_len (f s : List UInt8) {B : Nat} : ∀ {xs : List (List UInt8)}, (∀ x ∈ xs, x.length ≤ B) → (sepT f s xs).length ≤ f.length + xs.length * (s.length + B)
  | [], _ => by simp [sepT]
  | x :: xs, h => by
    have h1 := h x (List.mem_cons_self ..)
    have h2 : ∀ ys : List (List UInt8), (∀ y ∈ ys, y.length ≤ B) → (ys.flatMap (s ++ ·)).length ≤ ys.length * (s.length + B) := by
      intro ys
      induction ys with
      | nil => intro _; simp
      | cons y ys ih =>
        intro hy
        have e1 := hy y (List.mem_cons_self ..)
        have e2 := ih (fun z hz => hy z (List.mem_cons_of_mem _ hz))
        rw [List.flatMap_cons, List.length_append, List.length_append, List.length_cons, Nat.add_mul]
        omega
    have h3 := h2 xs (fun y hy => h y (List.mem_cons_of_mem _ hy))
    rw [sepT, List.length_append, List.length_append, List.length_cons, Nat.add_mul]
    omega
theorem tmT_len {t : Tm} (h : OkTm t) : (tmT t).length ≤ 16400 := by
  have hl := h.len
  rw [Lib.size_eq] at hl
  have hq := q1s_len t.text.data.toList
  unfold tmT quotedL
  repeat' split
  all_goals (try simp only [List.length_append, List.length_cons, List.length_nil])
  all_goals omega
theorem amT_len {a : Am} (h : OkAm a) : (amT a).length ≤ 1100000 := by
  have hp := h.plen
  rw [Lib.size_eq] at hp
  have h1 := sepT_len [40] [44, 32] (B := 16400) (xs := a.terms.map tmT) (fun x hx => by
    obtain ⟨t, ht, rfl⟩ := List.mem_map.1 hx
    exact tmT_len (h.all t ht))
  have hf := h.few
  simp only [List.length_cons, List.length_nil, List.length_map] at h1
  unfold amT
  rw [List.length_append, List.length_append]
  have : (if a.terms.length = 0 then ([] : List UInt8) else [41]).length ≤ 1 := by split <;> simp
  have h2 : a.terms.length * (0 + 1 + 1 + 16400) ≤ 64 * 16402 := Nat.mul_le_mul_right 16402 hf
  omega
theorem lmT_len {l : Lm} (h : OkLm l) : (lmT l).length ≤ 1100010 := by
  unfold lmT
  rcases h with ⟨hk, ha⟩ | ⟨hk, ha⟩ | ⟨hk, h1, h4, hl, hr⟩
  · rw [if_neg (by omega), if_neg (by omega)]; have := amT_len ha; omega
  · rw [if_pos hk]; have := amT_len ha; simp only [List.length_cons]; omega
  · rw [if_neg (by omega), if_pos hk]
    have h1 := tmT_len hl
    have h2 := tmT_len hr
    have h3 : (opT l.op).length ≤ 4 := by unfold opT; repeat' split
                                          all_goals simp
    simp only [List.length_append]
    omega
theorem rmT_len {r : Rm} (h : OkRm r) : (rmT r).length ≤ 80000000 := by
  have h0 := amT_len h.head
  have h1 := sepT_len [32, 58, 45, 32] [44, 32] (B := 1100010) (xs := r.body.map lmT) (fun x hx => by
    obtain ⟨t, ht, rfl⟩ := List.mem_map.1 hx
    exact lmT_len (h.all t ht))
  have hf := h.few
  simp only [List.length_cons, List.length_nil, List.length_map] at h1
  unfold rmT
  rw [List.length_append, List.length_append]
  have h2 : r.body.length * (0 + 1 + 1 + 1100010) ≤ 64 * 1100012 := Nat.mul_le_mul_right 1100012 hf
  simp only [List.length_cons, List.length_nil]
  omega
end Go.Proofs.YtphgglnkdfndiaaDoor
