/-
  The plain law of files: orders, and forms read back.
-/
import Derived.Test.YtjoiaejbahdjkaaGreatFgA
import Derived.Test.YtjoiaejbahdjkaaGreatReads
import Derived.Test.YtjoiaejbahdjkaaGreatFam
namespace Go.Proofs.YtjoiaejbahdjkaaGreat
open Go Go.RowKit Go.Mine
set_option linter.unusedVariables false
def tbs (x : ByteArray) : List UInt8 := x.toList
theorem tbs_inj {x y : ByteArray} (h : tbs x = tbs y) : x = y := by
 have h2 : (x.toList == y.toList) = true := beq_iff_eq.2 h
 unfold tbs at h
 rw [Lib.toList_data, Lib.toList_data] at h
 cases x; cases y
 simp only at h
 rw [Array.toList_inj.1 h]
theorem blt_iff (x y : ByteArray) : blt x y = decide (tbs x < tbs y) := by unfold blt tbs; rw [bytesLess_eq]
structure Strict {α : Type} (lt : α → α → Bool) : Prop where
 irr : ∀ x, lt x x = false
 tr : ∀ x y z, lt x y = true → lt y z = true → lt x z = true
 conn : ∀ x y, x ≠ y → lt x y = true ∨ lt y x = true
theorem strict_blt : Strict blt where
 irr x := by rw [blt_iff]; simp [List.lt_irrefl]
 tr x y z h1 h2 := by rw [blt_iff] at *; simp only [decide_eq_true_eq] at *; exact List.lt_trans h1 h2
 conn x y h := by
  rw [blt_iff, blt_iff]
  simp only [decide_eq_true_eq]
  rcases List.le_total (tbs x) (tbs y) with h1 | h1
  ·rcases List.le_iff_lt_or_eq.1 h1 with h2 | h2
   ·exact .inl h2
   ·exact absurd (tbs_inj h2) h
  ·rcases List.le_iff_lt_or_eq.1 h1 with h2 | h2
   ·exact .inr h2
   ·exact absurd (tbs_inj h2).symm h
theorem Strict.asymm {α : Type} {lt : α → α → Bool} (S : Strict lt) {x y : α} (h : lt x y = true) : lt y x = false := by
 cases h2 : lt y x with
 | false => rfl
 | true => have := S.tr _ _ _ h h2; rw [S.irr] at this; cases this
def belowL : List ByteArray → List ByteArray → Bool
 | [], [] => false
 | [], _ :: _ => true
 | _ :: _, [] => false
 | a :: r, b :: s => if a = b then belowL r s else blt a b
theorem below_irr : ∀ x, belowL x x = false
 | [] => rfl
 | a :: r => by rw [belowL, if_pos rfl]; exact below_irr r
theorem below_tr : ∀ x y z, belowL x y = true → belowL y z = true → belowL x z = true
 | [], [], z, h, _ => by simp [belowL] at h
 | [], _ :: _, [], _, h => by simp [belowL] at h
 | [], _ :: _, _ :: _, _, _ => rfl
 | _ :: _, [], _, h, _ => by simp [belowL] at h
 | _ :: _, _ :: _, [], _, h => by simp [belowL] at h
 | a :: x, b :: y, c :: z, h1, h2 => by
   rw [belowL] at h1 h2 ⊢
   by_cases hab : a = b
   ·subst hab
    rw [if_pos rfl] at h1
    by_cases hac : a = c
    ·rw [if_pos hac] at h2 ⊢
     exact below_tr x y z h1 h2
    ·rw [if_neg hac] at h2 ⊢
     exact h2
   ·rw [if_neg hab] at h1
    by_cases hbc : b = c
    ·subst hbc; rw [if_neg hab]; exact h1
    ·rw [if_neg hbc] at h2
     have h3 := strict_blt.tr _ _ _ h1 h2
     rw [if_neg (fun e => by rw [e] at h3; rw [strict_blt.irr] at h3; cases h3)]
     exact h3
theorem below_conn : ∀ x y, x ≠ y → belowL x y = true ∨ belowL y x = true
 | [], [], h => absurd rfl h
 | [], _ :: _, _ => .inl rfl
 | _ :: _, [], _ => .inr rfl
 | a :: x, b :: y, h => by
   rw [belowL, belowL]
   by_cases hab : a = b
   ·rw [if_pos hab, if_pos hab.symm]
    exact below_conn x y (fun e => h (by rw [hab, e]))
   ·rw [if_neg hab, if_neg (Ne.symm hab)]
    exact strict_blt.conn a b hab
theorem strict_below : Strict belowL := ⟨below_irr, below_tr, below_conn⟩
def mergeG {α : Type} (lt : α → α → Bool) : List α → List α → List α
 | [], b => b
 | x :: a, [] => x :: a
 | x :: a, y :: b => if lt x y then x :: mergeG lt a (y :: b) else if lt y x then y :: mergeG lt (x :: a) b else x :: mergeG lt a b
termination_by a b => a.length + b.length
def riseG {α : Type} (lt : α → α → Bool) (l : List α) : List α :=
 if h : l.length < 2 then l else mergeG lt (riseG lt (l.take (l.length / 2))) (riseG lt (l.drop (l.length / 2)))
termination_by l.length
decreasing_by
 ·rw [List.length_take]; omega
 ·rw [List.length_drop]; omega
def Up {α : Type} (lt : α → α → Bool) (l : List α) : Prop := l.Pairwise fun x y => lt x y = true
theorem merge_nilr {α : Type} (lt : α → α → Bool) (a : List α) : mergeG lt a [] = a := by cases a <;> rw [mergeG]
theorem merge_mem {α : Type} {lt : α → α → Bool} (S : Strict lt) : ∀ (n : Nat) (a b : List α), a.length + b.length ≤ n → ∀ z, z ∈ mergeG lt a b ↔ z ∈ a ∨ z ∈ b
 | _, [], b, _, z => by rw [mergeG]; simp
 | _, x :: a, [], _, z => by rw [mergeG]; simp
 | 0, x :: a, y :: b, h, z => by simp at h
 | n + 1, x :: a, y :: b, h, z => by
   simp only [List.length_cons] at h
   rw [mergeG]
   split
   ·rw [List.mem_cons, merge_mem S n a (y :: b) (by simp only [List.length_cons]; omega)]
    simp [or_assoc]
   ·split
    ·rw [List.mem_cons, merge_mem S n (x :: a) b (by simp only [List.length_cons]; omega)]
     simp only [List.mem_cons]
     grind
    ·rename_i h1 h2
     have e : x = y := Classical.byContradiction fun e => by
      rcases S.conn x y e with h3 | h3
      ·exact h1 h3
      ·exact h2 h3
     subst e
     rw [List.mem_cons, merge_mem S n a b (by omega)]
     simp only [List.mem_cons]
     grind
theorem merge_up {α : Type} {lt : α → α → Bool} (S : Strict lt) : ∀ (n : Nat) (a b : List α), a.length + b.length ≤ n → Up lt a → Up lt b → Up lt (mergeG lt a b)
 | _, [], b, _, _, h => by rw [mergeG]; exact h
 | _, x :: a, [], _, h, _ => by rw [mergeG]; exact h
 | 0, x :: a, y :: b, h, _, _ => by simp at h
 | n + 1, x :: a, y :: b, h, ha, hb => by
   simp only [List.length_cons] at h
   have ha2 := List.pairwise_cons.1 ha
   have hb2 := List.pairwise_cons.1 hb
   rw [mergeG]
   split
   ·rename_i h1
    refine List.pairwise_cons.2 ⟨fun z hz => ?_, merge_up S n a (y :: b) (by simp only [List.length_cons]; omega) ha2.2 hb⟩
    rcases (merge_mem S _ a (y :: b) (Nat.le_refl _) z).1 hz with h3 | h3
    ·exact ha2.1 z h3
    ·rcases List.mem_cons.1 h3 with h4 | h4
     ·rw [h4]; exact h1
     ·exact S.tr _ _ _ h1 (hb2.1 z h4)
   ·split
    ·rename_i h1
     refine List.pairwise_cons.2 ⟨fun z hz => ?_, merge_up S n (x :: a) b (by simp only [List.length_cons]; omega) ha hb2.2⟩
     rcases (merge_mem S _ (x :: a) b (Nat.le_refl _) z).1 hz with h3 | h3
     ·rcases List.mem_cons.1 h3 with h4 | h4
      ·rw [h4]; exact h1
      ·exact S.tr _ _ _ h1 (ha2.1 z h4)
     ·exact hb2.1 z h3
    ·rename_i h1 h2
     have e : x = y := Classical.byContradiction fun e => by
      rcases S.conn x y e with h3 | h3
      ·exact h1 h3
      ·exact h2 h3
     subst e
     refine List.pairwise_cons.2 ⟨fun z hz => ?_, merge_up S n a b (by omega) ha2.2 hb2.2⟩
     rcases (merge_mem S _ a b (Nat.le_refl _) z).1 hz with h3 | h3
     ·exact ha2.1 z h3
     ·exact hb2.1 z h3
theorem merge_len {α : Type} (lt : α → α → Bool) : ∀ (n : Nat) (a b : List α), a.length + b.length ≤ n → (mergeG lt a b).length ≤ a.length + b.length
 | _, [], b, _ => by rw [mergeG]; simp
 | _, x :: a, [], _ => by rw [mergeG]; simp
 | 0, x :: a, y :: b, h => by simp at h
 | n + 1, x :: a, y :: b, h => by
   simp only [List.length_cons] at h
   have h1 := merge_len lt n a (y :: b) (by simp only [List.length_cons]; omega)
   have h2 := merge_len lt n (x :: a) b (by simp only [List.length_cons]; omega)
   have h3 := merge_len lt n a b (by omega)
   simp only [List.length_cons] at h1 h2 h3
   rw [mergeG]
   split
   ·simp only [List.length_cons]; omega
   ·split <;> · simp only [List.length_cons]; omega
theorem rise_spec {α : Type} {lt : α → α → Bool} (S : Strict lt) : ∀ (n : Nat) (l : List α), l.length ≤ n → Up lt (riseG lt l) ∧ (∀ z, z ∈ riseG lt l ↔ z ∈ l) ∧ (riseG lt l).length ≤ l.length := by
 intro n
 induction n with
 | zero =>
   intro l hl
   rw [riseG, dif_pos (by omega)]
   have : l = [] := List.eq_nil_of_length_eq_zero (by omega)
   subst this
   exact ⟨List.Pairwise.nil, fun z => Iff.rfl, Nat.le_refl _⟩
 | succ n ih =>
   intro l hl
   rw [riseG]
   split
   ·rename_i h2
    refine ⟨?_, fun z => Iff.rfl, Nat.le_refl _⟩
    match l, h2 with
    | [], _ => exact List.Pairwise.nil
    | [x], _ => exact List.pairwise_singleton _ _
   ·obtain ⟨a1, a2, a3⟩ := ih (l.take (l.length / 2)) (by rw [List.length_take]; omega)
    obtain ⟨b1, b2, b3⟩ := ih (l.drop (l.length / 2)) (by rw [List.length_drop]; omega)
    refine ⟨merge_up S _ _ _ (Nat.le_refl _) a1 b1, fun z => ?_, ?_⟩
    ·rw [merge_mem S _ _ _ (Nat.le_refl _), a2, b2, ← List.mem_append, List.take_append_drop]
    ·have h3 := merge_len lt _ _ _ (Nat.le_refl ((riseG lt (l.take (l.length / 2))).length + (riseG lt (l.drop (l.length / 2))).length))
     rw [List.length_take] at a3
     rw [List.length_drop] at b3
     omega
theorem up_unique {α : Type} {lt : α → α → Bool} (S : Strict lt) : ∀ (a b : List α), Up lt a → Up lt b → (∀ z, z ∈ a ↔ z ∈ b) → a = b
 | [], [], _, _, _ => rfl
 | [], y :: b, _, _, h => absurd ((h y).2 List.mem_cons_self) (by simp)
 | x :: a, [], _, _, h => absurd ((h x).1 List.mem_cons_self) (by simp)
 | x :: a, y :: b, ha, hb, h => by
   have ha2 := List.pairwise_cons.1 ha
   have hb2 := List.pairwise_cons.1 hb
   have e : x = y := Classical.byContradiction fun e => by
    have h1 := (List.mem_cons.1 ((h x).1 List.mem_cons_self)).resolve_left e
    have h2 := (List.mem_cons.1 ((h y).2 List.mem_cons_self)).resolve_left (Ne.symm e)
    have h3 := S.asymm (hb2.1 x h1)
    rw [ha2.1 y h2] at h3
    cases h3
   subst e
   congr 1
   refine up_unique S a b ha2.2 hb2.2 fun z => ⟨fun hz => ?_, fun hz => ?_⟩
   ·refine (List.mem_cons.1 ((h z).1 (List.mem_cons_of_mem _ hz))).resolve_left fun e => ?_
    have := ha2.1 z hz; rw [e, S.irr] at this; cases this
   ·refine (List.mem_cons.1 ((h z).2 (List.mem_cons_of_mem _ hz))).resolve_left fun e => ?_
    have := hb2.1 z hz; rw [e, S.irr] at this; cases this
theorem Up.nodup {α : Type} {lt : α → α → Bool} (S : Strict lt) {l : List α} (h : Up lt l) : l.Nodup := List.Pairwise.imp (fun {x y} hxy e => by rw [e, S.irr] at hxy; cases hxy) h
theorem Up.get {α : Type} {lt : α → α → Bool} {l : List α} (h : Up lt l) {i j : Nat} (hij : i < j) (hj : j < l.length) : lt (l[i]'(by omega)) l[j] = true := List.pairwise_iff_getElem.1 h i j (by omega) hj hij
def singles (rows : List (List ByteArray)) : List (List ByteArray) := rows.flatten.map fun s => [s]
def textsL (rows : List (List ByteArray)) : List ByteArray := (riseG belowL (singles rows)).map fun r => r.headD ByteArray.empty
theorem below_one (x y : ByteArray) : belowL [x] [y] = blt x y := by
 rw [belowL]
 split
 ·rename_i h; rw [h, strict_blt.irr]; rfl
 ·rfl
theorem texts_spec (rows : List (List ByteArray)) : Up blt (textsL rows) ∧ (∀ z, z ∈ textsL rows ↔ z ∈ rows.flatten) ∧ (textsL rows).length ≤ rows.flatten.length := by
 obtain ⟨h1, h2, h3⟩ := rise_spec strict_below _ (singles rows) (Nat.le_refl _)
 have hs : ∀ r ∈ riseG belowL (singles rows), ∃ s ∈ rows.flatten, r = [s] := fun r hr => by
  obtain ⟨s, hs, e⟩ := List.mem_map.1 ((h2 r).1 hr)
  exact ⟨s, hs, e.symm⟩
 refine ⟨?_, fun z => ⟨fun hz => ?_, fun hz => ?_⟩, ?_⟩
 ·unfold textsL Up
  rw [List.pairwise_map]
  refine List.Pairwise.imp_of_mem (fun {x y} hx hy hxy => ?_) h1
  obtain ⟨s, _, rfl⟩ := hs x hx
  obtain ⟨t, _, rfl⟩ := hs y hy
  rw [below_one] at hxy
  exact hxy
 ·obtain ⟨r, hr, e⟩ := List.mem_map.1 hz
  obtain ⟨s, hs2, rfl⟩ := hs r hr
  rw [← e]; exact hs2
 ·exact List.mem_map.2 ⟨[z], (h2 _).2 (List.mem_map.2 ⟨z, hz, rfl⟩), rfl⟩
 ·unfold textsL
  rw [List.length_map]
  refine Nat.le_trans h3 ?_
  unfold singles
  rw [List.length_map]
  exact Nat.le_refl _
theorem getGo_form : ∀ (l : List UInt8) (i acc n k : Nat), getGo i acc l = (n, k, 0) → ∃ x, n = acc + x * 2 ^ (7 * i) ∧ i < k ∧ l = lebl x ++ l.drop (k - i) ∧ (lebl x).length = k - i ∧ (0 < i → 0 < x)
 | [], i, acc, n, k, h => by rw [getGo] at h; simp at h
 | c :: r, i, acc, n, k, h => by
   by_cases hb : (i = 9 ∧ 1 < c.toNat) ∨ (0 < i ∧ c.toNat = 0)
   ·rw [getGo_bad hb] at h; simp at h
   ·by_cases h2 : c.toNat < 128
    ·rw [getGo_end hb h2] at h
     simp only [Prod.mk.injEq] at h
     obtain ⟨e1, e2, _⟩ := h
     subst e1; subst e2
     refine ⟨c.toNat, rfl, by omega, ?_, ?_, fun hi => by omega⟩
     ·rw [lebl_small h2, show i + 1 - i = 1 by omega]
      simp
     ·rw [lebl_small h2, show i + 1 - i = 1 by omega]; rfl
    ·rw [getGo_go hb h2] at h
     obtain ⟨x, e1, e2, e3, e4, e5⟩ := getGo_form r (i + 1) _ n k h
     have hx : 0 < x := e5 (by omega)
     have hc := c.toNat_lt
     refine ⟨c.toNat % 128 + 128 * x, ?_, by omega, ?_, ?_, fun _ => by omega⟩
     ·rw [e1, show 7 * (i + 1) = 7 * i + 7 by omega, Nat.pow_add, Nat.add_mul]
      have : x * (2 ^ (7 * i) * 2 ^ 7) = 128 * x * 2 ^ (7 * i) := by
       rw [show (2 : Nat) ^ 7 = 128 from rfl, Nat.mul_comm (2 ^ (7 * i)) 128, ← Nat.mul_assoc, Nat.mul_comm x 128]
      omega
     ·rw [lebl_big (by omega), show (c.toNat % 128 + 128 * x) / 128 = x by omega, show (c.toNat % 128 + 128 * x) % 128 + 128 = c.toNat by omega, UInt8.ofNat_toNat, show k - i = (k - (i + 1)) + 1 by omega, List.drop_succ_cons, List.cons_append]
      congr 1
     ·rw [lebl_big (by omega), show (c.toNat % 128 + 128 * x) / 128 = x by omega, List.length_cons, e4]; omega
theorem tri {α β : Type} {p : α × β × Nat} {c : Nat} (h : p.2.2 = c) : p = (p.1, p.2.1, c) := by rw [← h]
theorem getL_form {l : List UInt8} (h : (getL l).2.2 = 0) : l = lebl (getL l).1 ++ l.drop (getL l).2.1 ∧ (lebl (getL l).1).length = (getL l).2.1 := by
 obtain ⟨x, e1, e2, e3, e4, _⟩ := getGo_form l 0 0 (getL l).1 (getL l).2.1 (tri h)
 simp only [Nat.mul_zero, Nat.pow_zero, Nat.mul_one, Nat.zero_add, Nat.sub_zero] at e1 e3 e4
 subst e1
 exact ⟨e3, e4⟩
theorem num_form {m : List UInt8} {a n a' : Nat} (h : stNum m a 0 = (n, a', 0)) (ha : a ≤ m.length) : m.drop a = lebl n ++ m.drop a' ∧ a' = a + (lebl n).length ∧ a' ≤ m.length ∧ n < 2 ^ 64 := by
 by_cases he : (getL (m.drop a)).2.2 = 0
 ·rw [stNum_ok he] at h
  simp only [Prod.mk.injEq, and_true] at h
  obtain ⟨h1, h2⟩ := getL_form he
  obtain ⟨h3, h4, h5⟩ := getL_ok he
  rw [List.length_drop] at h4
  obtain ⟨e1, e2⟩ := h
  rw [e1] at h1 h2 h5
  rw [List.drop_drop, e2] at h1
  exact ⟨h1, by omega, by omega, h5⟩
 ·rw [stNum_err he] at h
  simp only [Prod.mk.injEq] at h
  exact absurd h.2.2 he
theorem num_back {m : List UInt8} {a n : Nat} {r : List UInt8} (h : m.drop a = lebl n ++ r) (hn : n < 2 ^ 64) : stNum m a 0 = (n, a + (lebl n).length, 0) := by
 have e := getL_lebl hn r
 rw [← h] at e
 rw [stNum_ok (by rw [e]), e]
theorem text_form {most : Nat} {m t : List UInt8} {a a' : Nat} (h : stText most m a 0 = (t, a', 0)) (ha : a ≤ m.length) : m.drop a = lebl t.length ++ t ++ m.drop a' ∧ a' = a + (lebl t.length).length + t.length ∧ a' ≤ m.length ∧ t.length ≤ most := by
 unfold stText at h
 rw [if_neg (by simp)] at h
 by_cases he : (getL (m.drop a)).2.2 = 0
 ·rw [if_neg (by simp [he])] at h
  obtain ⟨h1, h2⟩ := getL_form he
  obtain ⟨h3, h4, h5⟩ := getL_ok he
  rw [List.length_drop] at h4
  rw [List.drop_drop] at h1
  generalize (getL (m.drop a)).1 = n at *
  generalize (getL (m.drop a)).2.1 = k at *
  by_cases hm : most < n
  ·rw [if_pos hm] at h; simp at h
  ·rw [if_neg hm] at h
   by_cases hl : m.length - (a + k) < n
   ·rw [if_pos hl] at h; simp at h
   ·rw [if_neg hl] at h
    simp only [Prod.mk.injEq, and_true] at h
    obtain ⟨e1, e2⟩ := h
    have hln : t.length = n := by rw [← e1]; simp; omega
    rw [hln]
    refine ⟨?_, by omega, by omega, by omega⟩
    rw [h1, List.append_assoc]
    congr 1
    rw [← e1, ← e2, ← List.drop_drop (i := n), List.take_append_drop]
 ·rw [if_pos he] at h
  simp only [Prod.mk.injEq] at h
  exact absurd h.2.2 he
theorem text_back {most : Nat} {m t r : List UInt8} {a : Nat} (h : m.drop a = lebl t.length ++ t ++ r) (hm : t.length ≤ most) (hn : t.length < 2 ^ 64) : stText most m a 0 = (t, a + (lebl t.length).length + t.length, 0) := by
 have e := getL_lebl hn (t ++ r)
 rw [← List.append_assoc, ← h] at e
 have hl : m.length - a = (lebl t.length).length + t.length + r.length := by
  have := congrArg List.length h
  simp only [List.length_drop, List.length_append] at this
  omega
 unfold stText
 rw [if_neg (by simp), e]
 simp only
 rw [if_neg (by simp), if_neg (by omega), if_neg (by omega)]
 have hd : m.drop (a + (lebl t.length).length) = t ++ r := by
  rw [← List.drop_drop, h, List.append_assoc, List.drop_left]
 rw [hd, List.take_left]
theorem fell_up {acc : List ByteArray} {t : ByteArray} (ha : Up blt acc) (h : fell acc t = false) : Up blt (acc ++ [t]) := by
 refine List.pairwise_append.2 ⟨ha, List.pairwise_singleton _ _, fun x hx y hy => ?_⟩
 rw [List.mem_singleton] at hy
 subst hy
 by_cases h0 : acc = []
 ·subst h0; cases hx
 ·have hl : 0 < acc.length := List.length_pos_iff.2 h0
  rw [fell_last (q := acc[acc.length - 1]) (by simp) hl] at h
  have hq : blt acc[acc.length - 1] y = true := by simpa using h
  obtain ⟨i, hi, rfl⟩ := List.mem_iff_getElem.1 hx
  by_cases he : i = acc.length - 1
  ·subst he; exact hq
  ·exact strict_blt.tr _ _ _ (Up.get ha (show i < acc.length - 1 by omega) (by omega)) hq
theorem up_fell {acc : List ByteArray} {t : ByteArray} (h : Up blt (acc ++ [t])) : fell acc t = false := by
 by_cases h0 : acc = []
 ·subst h0; rfl
 ·have hl : 0 < acc.length := List.length_pos_iff.2 h0
  rw [fell_last (q := acc[acc.length - 1]) (by simp) hl]
  have := (List.pairwise_append.1 h).2.2 acc[acc.length - 1] (List.getElem_mem _) t (by simp)
  simp [this]
theorem ba_size (t : List UInt8) : (⟨t.toArray⟩ : ByteArray).size = t.length := by simp [Lib.size_eq]
theorem rdGo_form {m : List UInt8} : ∀ (k a : Nat) (acc ts : List ByteArray) (a' : Nat), rdGo m k a acc = (ts, a', 0) → a ≤ m.length → Up blt acc →
 ∃ us, ts = acc ++ us ∧ us.length = k ∧ m.drop a = pgBody us ++ m.drop a' ∧ a' = a + (pgBody us).length ∧ a' ≤ m.length ∧ Up blt ts ∧ ∀ s ∈ us, s.size ≤ 4096
 | 0, a, acc, ts, a', h, ha, hu => by
   rw [rdGo] at h
   simp only [Prod.mk.injEq, and_true] at h
   obtain ⟨e1, e2⟩ := h
   subst e1; subst e2
   exact ⟨[], by simp, rfl, by simp [pgBody], by simp [pgBody], ha, hu, by simp⟩
 | k + 1, a, acc, ts, a', h, ha, hu => by
   by_cases he : (stText 4096 m a 0).2.2 = 0
   ·by_cases hf : fell acc ⟨(stText 4096 m a 0).1.toArray⟩ = true
    ·rw [rdGo_fell he hf] at h; simp at h
    ·have hf2 : fell acc ⟨(stText 4096 m a 0).1.toArray⟩ = false := by simpa using hf
     rw [rdGo_on he hf2] at h
     obtain ⟨t1, t2, t3, t4⟩ := text_form (m := m) (a := a) (t := (stText 4096 m a 0).1) (a' := (stText 4096 m a 0).2.1) (most := 4096) (tri he) ha
     have hsz := ba_size (stText 4096 m a 0).1
     have hdt : (⟨(stText 4096 m a 0).1.toArray⟩ : ByteArray).data.toList = (stText 4096 m a 0).1 := by simp
     generalize (stText 4096 m a 0).2.1 = a2 at *
     generalize (stText 4096 m a 0).1 = x at *
     obtain ⟨us, e1, e2, e3, e4, e5, e6, e7⟩ := rdGo_form k a2 _ ts a' h t3 (fell_up hu hf2)
     refine ⟨⟨x.toArray⟩ :: us, by rw [e1]; simp, by simp [e2], ?_, ?_, e5, e6, fun s hs => ?_⟩
     ·rw [t1, e3]
      simp only [pgBody, List.flatMap_cons, hsz, List.append_assoc]
     ·simp only [pgBody, List.flatMap_cons, hsz, List.length_append] at e4 ⊢
      omega
     ·rcases List.mem_cons.1 hs with h1 | h1
      ·rw [h1, hsz]; exact t4
      ·exact e7 s h1
   ·rw [rdGo_err he] at h
    simp only [Prod.mk.injEq] at h
    exact absurd h.2.2 he
theorem rdGo_back {m r : List UInt8} : ∀ (us : List ByteArray) (a : Nat) (acc : List ByteArray), m.drop a = pgBody us ++ r → Up blt (acc ++ us) → (∀ s ∈ us, s.size ≤ 4096) → rdGo m us.length a acc = (acc ++ us, a + (pgBody us).length, 0)
 | [], a, acc, h, hu, hs => by simp [rdGo, pgBody]
 | s :: us, a, acc, h, hu, hs => by
   have hs1 := hs s (by simp)
   have hdl : s.data.toList.length = s.size := (Lib.size_eq s).symm
   have hd : m.drop a = lebl s.data.toList.length ++ s.data.toList ++ (pgBody us ++ r) := by
    rw [h, hdl]; simp [pgBody]
   have ht := text_back (most := 4096) hd (by omega) (by omega)
   rw [hdl] at ht
   have hu2 : Up blt ((acc ++ [s]) ++ us) := by rw [List.append_assoc]; exact hu
   have hf : fell acc s = false := up_fell (List.pairwise_append.1 hu2).1
   rw [List.length_cons, rdGo_on (by rw [ht]) (by rw [ht]; simpa using hf), ht]
   have hd2 : m.drop (a + (lebl s.size).length + s.size) = pgBody us ++ r := by
    rw [hdl] at hd
    rw [← List.drop_drop, ← List.drop_drop, hd, List.append_assoc, List.drop_left, ← hdl, List.drop_left]
   have e : (⟨s.data.toList.toArray⟩ : ByteArray) = s := by simp
   show rdGo m us.length (a + (lebl s.size).length + s.size) (acc ++ [⟨s.data.toList.toArray⟩]) = _
   rw [e, rdGo_back us _ (acc ++ [s]) hd2 hu2 (fun x hx => hs x (List.mem_cons_of_mem _ hx))]
   simp only [List.append_assoc, List.singleton_append, pgBody, List.flatMap_cons, List.length_append, hdl]
   congr 2
   omega
theorem read_form {l : List UInt8} {ts : List ByteArray} {d : Nat} (h : readL l = (ts, d, 0)) : l = pgBytes ts ++ l.drop d ∧ d = (pgBytes ts).length ∧ d ≤ l.length ∧ Up blt ts ∧ (∀ s ∈ ts, s.size ≤ 4096) ∧ ts.length ≤ 4194304 := by
 unfold readL at h
 by_cases he : (stNum l 0 0).2.2 = 0
 ·rw [if_neg (by simp [he])] at h
  by_cases hn : 4194304 < (stNum l 0 0).1
  ·rw [if_pos hn] at h; simp at h
  ·rw [if_neg hn] at h
   obtain ⟨n1, n2, n3, n4⟩ := num_form (m := l) (a := 0) (n := (stNum l 0 0).1) (a' := (stNum l 0 0).2.1) (tri he) (by omega)
   obtain ⟨us, e1, e2, e3, e4, e5, e6, e7⟩ := rdGo_form _ _ _ _ _ h n3 List.Pairwise.nil
   simp only [List.nil_append] at e1
   subst e1
   rw [← e2] at n1 n2 hn
   rw [List.drop_zero] at n1
   refine ⟨?_, ?_, e5, e6, e7, by omega⟩
   ·rw [n1]
    unfold pgBytes
    rw [List.append_assoc]
    congr 1
    rw [← n1]
    exact e3
   ·unfold pgBytes; rw [List.length_append]; omega
 ·rw [if_pos he] at h
  simp only [Prod.mk.injEq] at h
  exact absurd h.2.2 he
theorem read_back {l r : List UInt8} {ts : List ByteArray} (h : l = pgBytes ts ++ r) (hu : Up blt ts) (hs : ∀ s ∈ ts, s.size ≤ 4096) (hn : ts.length ≤ 4194304) : readL l = (ts, (pgBytes ts).length, 0) := by
 have h0 : l.drop 0 = lebl ts.length ++ (pgBody ts ++ r) := by rw [List.drop_zero, h]; unfold pgBytes; rw [List.append_assoc]
 have e := num_back h0 (by omega)
 unfold readL
 rw [e]
 simp only
 rw [if_neg (by simp), if_neg (by omega), rdGo_back ts _ [] (r := r) ?_ (by simpa using hu) hs]
 ·simp [pgBytes]
 ·rw [Nat.zero_add, h]
  unfold pgBytes
  rw [List.append_assoc, List.drop_left]
end Go.Proofs.YtjoiaejbahdjkaaGreat
/-
  The plain law of files: what is a file.
-/
namespace Go.Proofs.YtjoiaejbahdjkaaGreat
open Go Go.RowKit Go.Mine
set_option linter.unusedVariables false
structure Fil where
 nm : List UInt8
 a0 : Nat
 A : Nat
 a1 : Nat
 n : Nat
 a2 : Nat
 ts : List ByteArray
 d : Nat
 cs : List (List Nat)
 ps : List Nat
 fin : Nat
def pageL (c : List Nat) : List UInt8 := lebl (encL c).length ++ encL c
def colsGo (m : List UInt8) (n : Nat) : Nat → Nat → List (List Nat) → List Nat → Option (List (List Nat) × List Nat × Nat)
 | 0, a, cs, ps => some (cs, ps, a)
 | k + 1, a, cs, ps =>
   if (stText 16777216 m a 0).2.2 ≠ 0 then none else
   match decP n (stText 16777216 m a 0).1 with
   | none => none
   | some c => colsGo m n k (stText 16777216 m a 0).2.1 (cs ++ [c]) (ps ++ [(stText 16777216 m a 0).1.length])
structure Parse (m : List UInt8) (F : Fil) : Prop where
 name : stText 4096 m 0 0 = (F.nm, F.a0, 0)
 ar : stNum m F.a0 0 = (F.A, F.a1, 0)
 arl : F.A ≤ 64
 nr : stNum m F.a1 0 = (F.n, F.a2, 0)
 nrl : F.n ≤ 65536
 dict : readL (m.drop F.a2) = (F.ts, F.d, 0)
 cols : colsGo m F.n F.A (F.a2 + F.d) [] [] = some (F.cs, F.ps, F.fin)
structure Fine (m : List UInt8) (F : Fil) : Prop where
 full : 0 < F.n ∨ F.ts = []
 fin : F.fin = m.length
 ok : LaidOk F.ts.length F.cs F.n
theorem Parse.same {m : List UInt8} {F G : Fil} (h : Parse m F) (g : Parse m G) : F = G := by
 obtain ⟨nm, a0, A, a1, n, a2, ts, d, cs, ps, fin⟩ := F
 obtain ⟨nm', a0', A', a1', n', a2', ts', d', cs', ps', fin'⟩ := G
 obtain ⟨h1, h2, _, h3, _, h4, h5⟩ := h
 obtain ⟨g1, g2, _, g3, _, g4, g5⟩ := g
 simp only at *
 rw [h1] at g1; simp only [Prod.mk.injEq, and_true] at g1; obtain ⟨rfl, rfl⟩ := g1
 rw [h2] at g2; simp only [Prod.mk.injEq, and_true] at g2; obtain ⟨rfl, rfl⟩ := g2
 rw [h3] at g3; simp only [Prod.mk.injEq, and_true] at g3; obtain ⟨rfl, rfl⟩ := g3
 rw [h4] at g4; simp only [Prod.mk.injEq, and_true] at g4; obtain ⟨rfl, rfl⟩ := g4
 rw [h5] at g5; simp only [Option.some.injEq, Prod.mk.injEq] at g5; obtain ⟨rfl, rfl, rfl⟩ := g5
 rfl
theorem colsGo_form {m : List UInt8} {n : Nat} : ∀ (k a : Nat) (cs : List (List Nat)) (ps : List Nat) (cs' : List (List Nat)) (ps' : List Nat) (a' : Nat), colsGo m n k a cs ps = some (cs', ps', a') → a ≤ m.length →
 ∃ us, cs' = cs ++ us ∧ us.length = k ∧ ps' = ps ++ us.map (fun c => (encL c).length) ∧ m.drop a = us.flatMap pageL ++ m.drop a' ∧ a' ≤ m.length ∧ ∀ c ∈ us, U32 c ∧ c.length = n
 | 0, a, cs, ps, cs', ps', a', h, ha => by
   rw [colsGo] at h
   simp only [Option.some.injEq, Prod.mk.injEq] at h
   obtain ⟨rfl, rfl, rfl⟩ := h
   exact ⟨[], by simp, rfl, by simp, by simp, ha, by simp⟩
 | k + 1, a, cs, ps, cs', ps', a', h, ha => by
   rw [colsGo] at h
   by_cases he : (stText 16777216 m a 0).2.2 = 0
   ·rw [if_neg (by simp [he])] at h
    obtain ⟨t1, t2, t3, t4⟩ := text_form (m := m) (a := a) (t := (stText 16777216 m a 0).1) (a' := (stText 16777216 m a 0).2.1) (most := 16777216) (tri he) ha
    generalize (stText 16777216 m a 0).2.1 = a2 at *
    generalize (stText 16777216 m a 0).1 = x at *
    cases hd : decP n x with
    | none => rw [hd] at h; cases h
    | some c =>
      rw [hd] at h
      obtain ⟨s1, s2, s3⟩ := decP_spec hd
      obtain ⟨us, e1, e2, e3, e4, e5, e6⟩ := colsGo_form k a2 _ _ cs' ps' a' h t3
      refine ⟨c :: us, by rw [e1]; simp, by simp [e2], by rw [e3]; simp [s3], ?_, e5, fun y hy => ?_⟩
      ·rw [t1, e4]
       simp only [List.flatMap_cons, pageL, s3, List.append_assoc]
      ·rcases List.mem_cons.1 hy with h1 | h1
       ·rw [h1]; exact ⟨s1, s2⟩
       ·exact e6 y h1
   ·rw [if_pos he] at h; cases h
theorem colsGo_back {m r : List UInt8} {n : Nat} (hn : n < 2 ^ 32) (hm : m.length ≤ 16777216) : ∀ (us : List (List Nat)) (a : Nat) (cs : List (List Nat)) (ps : List Nat), m.drop a = us.flatMap pageL ++ r → (∀ c ∈ us, U32 c ∧ c.length = n) →
 colsGo m n us.length a cs ps = some (cs ++ us, ps ++ us.map (fun c => (encL c).length), a + (us.flatMap pageL).length)
 | [], a, cs, ps, h, hs => by simp [colsGo]
 | c :: us, a, cs, ps, h, hs => by
   have hd : m.drop a = lebl (encL c).length ++ encL c ++ (us.flatMap pageL ++ r) := by rw [h]; simp [pageL]
   have hle : (encL c).length ≤ 16777216 := by
    have := congrArg List.length hd
    simp only [List.length_drop, List.length_append] at this
    omega
   have ht := text_back (most := 16777216) hd hle (by omega)
   obtain ⟨c1, c2⟩ := hs c (by simp)
   have hdc : decP n (encL c) = some c := by rw [← c2]; exact decP_enc c1 (by omega)
   rw [List.length_cons, colsGo, ht]
   simp only
   rw [if_neg (by simp), hdc]
   simp only
   have hd2 : m.drop (a + (lebl (encL c).length).length + (encL c).length) = us.flatMap pageL ++ r := by
    rw [← List.drop_drop, ← List.drop_drop, hd, List.append_assoc, List.drop_left, List.drop_left]
   rw [colsGo_back hn hm us _ _ _ hd2 (fun y hy => hs y (List.mem_cons_of_mem _ hy))]
   simp only [List.append_assoc, List.singleton_append, List.map_cons, List.flatMap_cons, List.length_append, pageL]
   congr 3
   omega
def plcL (l : List ByteArray) (s : ByteArray) : Nat := l.findIdx fun x => decide (x = s)
theorem plc_get {l : List ByteArray} (hd : l.Nodup) {i : Nat} (hi : i < l.length) : plcL l l[i] = i := by
 unfold plcL
 rw [List.findIdx_eq hi]
 refine ⟨by simp, fun j hj => ?_⟩
 rw [decide_eq_false]
 intro e
 exact absurd ((List.getElem_inj hd).1 e) (by omega)
theorem get_plc {l : List ByteArray} {s : ByteArray} (h : s ∈ l) : ∃ hi : plcL l s < l.length, l[plcL l s] = s := by
 have hi : plcL l s < l.length := by
  unfold plcL
  exact List.findIdx_lt_length_of_exists ⟨s, h, by simp⟩
 refine ⟨hi, ?_⟩
 have := List.findIdx_getElem (xs := l) (p := fun x => decide (x = s)) (w := hi)
 exact of_decide_eq_true this
def colsL (A : Nat) (R : List (List ByteArray)) : List (List Nat) := (List.range A).map fun c => R.map fun row => plcL (textsL R) (row.getD c ByteArray.empty)
def formL (nm : List UInt8) (A n : Nat) (ts : List ByteArray) (cs : List (List Nat)) : List UInt8 := lebl nm.length ++ (nm ++ (lebl A ++ (lebl n ++ (pgBytes ts ++ cs.flatMap pageL))))
def bodyL (nm : List UInt8) (A : Nat) (rows : List (List ByteArray)) : List UInt8 := formL nm A (riseG belowL rows).length (textsL (riseG belowL rows)) (colsL A (riseG belowL rows))
structure Facts (m : List UInt8) (F : Fil) : Prop where
 form : m = formL F.nm F.A F.n F.ts F.cs ++ m.drop F.fin
 fin : F.fin ≤ m.length
 nml : F.nm.length ≤ 4096
 len : F.cs.length = F.A
 ps : F.ps = F.cs.map (fun c => (encL c).length)
 d : F.d = (pgBytes F.ts).length
 dle : F.a2 + F.d ≤ m.length
 up : Up blt F.ts
 sz : ∀ s ∈ F.ts, s.size ≤ 4096
 tl : F.ts.length ≤ 4194304
 col : ∀ c ∈ F.cs, U32 c ∧ c.length = F.n
theorem Parse.facts {m : List UInt8} {F : Fil} (h : Parse m F) : Facts m F := by
 obtain ⟨t1, t2, t3, t4⟩ := text_form h.name (by omega)
 obtain ⟨n1, n2, n3, n4⟩ := num_form h.ar t3
 obtain ⟨r1, r2, r3, r4⟩ := num_form h.nr n3
 obtain ⟨d1, d2, d3, d4, d5, d6⟩ := read_form h.dict
 rw [List.length_drop] at d3
 obtain ⟨us, c1, c2, c3, c4, c5, c6⟩ := colsGo_form _ _ _ _ _ _ _ h.cols (by omega)
 simp only [List.nil_append] at c1 c3
 subst c1
 refine ⟨?_, c5, t4, c2, c3, d2, by omega, d4, d5, d6, c6⟩
 rw [List.drop_zero] at t1
 rw [List.drop_drop] at d1
 rw [c4] at d1
 rw [d1] at r1
 rw [r1] at n1
 rw [n1] at t1
 refine t1.trans ?_
 unfold formL
 simp only [List.append_assoc]
theorem parse_back {m : List UInt8} {nm : List UInt8} {A n : Nat} {ts : List ByteArray} {cs : List (List Nat)} (hm : m.length ≤ 16777216) (h : formL nm A n ts cs = m) (h1 : nm.length ≤ 4096) (h2 : A ≤ 64) (h3 : n ≤ 65536) (h4 : Up blt ts) (h5 : ∀ s ∈ ts, s.size ≤ 4096) (h6 : ts.length ≤ 4194304)
 (h7 : cs.length = A) (h8 : ∀ c ∈ cs, U32 c ∧ c.length = n) : ∃ G, Parse m G ∧ G.nm = nm ∧ G.A = A ∧ G.n = n ∧ G.ts = ts ∧ G.cs = cs ∧ G.fin = m.length := by
 have e0 : m.drop 0 = lebl nm.length ++ nm ++ (lebl A ++ (lebl n ++ (pgBytes ts ++ cs.flatMap pageL))) := by rw [List.drop_zero, ← h]; simp [formL]
 have k0 := text_back (most := 4096) e0 h1 (by omega)
 have e1 : m.drop (0 + (lebl nm.length).length + nm.length) = lebl A ++ (lebl n ++ (pgBytes ts ++ cs.flatMap pageL)) := by
  rw [← List.drop_drop, ← List.drop_drop, e0, List.append_assoc, List.drop_left, List.drop_left]
 have k1 := num_back e1 (by omega)
 have e2 : m.drop (0 + (lebl nm.length).length + nm.length + (lebl A).length) = lebl n ++ (pgBytes ts ++ cs.flatMap pageL) := by
  rw [← List.drop_drop, e1, List.drop_left]
 have k2 := num_back e2 (by omega)
 have e3 : m.drop (0 + (lebl nm.length).length + nm.length + (lebl A).length + (lebl n).length) = pgBytes ts ++ cs.flatMap pageL := by
  rw [← List.drop_drop, e2, List.drop_left]
 have k3 := read_back e3 h4 h5 h6
 have e4 : m.drop (0 + (lebl nm.length).length + nm.length + (lebl A).length + (lebl n).length + (pgBytes ts).length) = cs.flatMap pageL ++ [] := by
  rw [← List.drop_drop, e3, List.drop_left, List.append_nil]
 have k4 := colsGo_back (n := n) (by omega) hm cs _ [] [] e4 h8
 rw [h7] at k4
 refine ⟨⟨nm, _, A, _, n, _, ts, _, cs, _, _⟩, ⟨k0, k1, h2, k2, h3, k3, k4⟩, rfl, rfl, rfl, rfl, rfl, ?_⟩
 show _ + (cs.flatMap pageL).length = m.length
 rw [← h]
 simp only [formL, List.length_append]
 omega
theorem getD_ok {l : List ByteArray} {i : Nat} (h : i < l.length) : l.getD i ByteArray.empty = l[i] := by rw [List.getD_eq_getElem?_getD, List.getElem?_eq_getElem h]; rfl
theorem below_above {ts : List ByteArray} (hu : Up blt ts) (i : Nat) : ∀ cs : List (List Nat), (∀ c ∈ cs, c.getD i 0 < ts.length ∧ c.getD (i - 1) 0 < ts.length) → belowL (rowF ts cs (i - 1)) (rowF ts cs i) = decide (0 < aboveL cs i)
 | [], _ => rfl
 | c :: r, h => by
   obtain ⟨h1, h2⟩ := h c (by simp)
   have ih := below_above hu i r (fun x hx => h x (List.mem_cons_of_mem _ hx))
   show belowL (ts.getD (c.getD (i - 1) 0) ByteArray.empty :: rowF ts r (i - 1)) (ts.getD (c.getD i 0) ByteArray.empty :: rowF ts r i) = _
   rw [belowL, aboveL, getD_ok h1, getD_ok h2]
   generalize c.getD i 0 = q at *
   generalize c.getD (i - 1) 0 = p at *
   by_cases hpq : p = q
   ·subst hpq
    rw [if_pos rfl, if_pos (by omega), ih]
   ·rw [if_neg (fun e => hpq ((List.getElem_inj (hu.nodup strict_blt)).1 e)), if_neg (by omega)]
    by_cases hlt : p < q
    ·rw [Up.get hu hlt h1, decide_eq_true (by omega)]
    ·rw [strict_blt.asymm (Up.get hu (show q < p by omega) h2), decide_eq_false (by omega)]
theorem rowsF_get {ts : List ByteArray} {cs : List (List Nat)} {n i : Nat} (h : i < (rowsF ts cs n).length) : (rowsF ts cs n)[i] = rowF ts cs i := by simp [rowsF]
theorem rowsF_length (ts : List ByteArray) (cs : List (List Nat)) (n : Nat) : (rowsF ts cs n).length = n := by simp [rowsF]
theorem bounds_get {T n : Nat} {cs : List (List Nat)} (hb : Bounds T cs) (hn : ∀ c ∈ cs, c.length = n) {i : Nat} (hi : i < n) : ∀ c ∈ cs, c.getD i 0 < T := fun c hc => by
 have hl := hn c hc
 rw [getD_at (by omega)]
 exact hb _ (List.mem_flatten.2 ⟨c, hc, List.getElem_mem _⟩)
theorem rise_up {ts : List ByteArray} {cs : List (List Nat)} {n : Nat} (hu : Up blt ts) (hb : Bounds ts.length cs) (hn : ∀ c ∈ cs, c.length = n) : Rise cs n ↔ Up belowL (rowsF ts cs n) := by
 constructor
 ·intro hr
  have step : ∀ i, 1 ≤ i → i < n → belowL (rowF ts cs (i - 1)) (rowF ts cs i) = true := fun i h1 h2 => by
   rw [below_above hu i cs fun c hc => ⟨bounds_get hb hn h2 c hc, bounds_get hb hn (by omega) c hc⟩]
   exact decide_eq_true (hr i h1 h2)
  have all : ∀ k i, i + k + 1 < n → belowL (rowF ts cs i) (rowF ts cs (i + k + 1)) = true := by
   intro k
   induction k with
   | zero => intro i h; exact step (i + 1) (by omega) h
   | succ k ih =>
     intro i h
     exact below_tr _ _ _ (ih i (by omega)) (step (i + (k + 1) + 1) (by omega) h)
  refine List.pairwise_iff_getElem.2 fun i j hi hj hij => ?_
  rw [rowsF_get, rowsF_get]
  rw [rowsF_length] at hj
  have := all (j - i - 1) i (by omega)
  rwa [show i + (j - i - 1) + 1 = j by omega] at this
 ·intro hr i h1 h2
  have := Up.get hr (show i - 1 < i by omega) (by rw [rowsF_length]; exact h2)
  rw [rowsF_get, rowsF_get, below_above hu i cs fun c hc => ⟨bounds_get hb hn h2 c hc, bounds_get hb hn (by omega) c hc⟩] at this
  exact of_decide_eq_true this
theorem mem_rows {ts : List ByteArray} {cs : List (List Nat)} {n : Nat} (hb : Bounds ts.length cs) (hn : ∀ c ∈ cs, c.length = n) (z : ByteArray) : z ∈ (rowsF ts cs n).flatten ↔ ∃ j, ∃ h : j < ts.length, j ∈ cs.flatten ∧ ts[j] = z := by
 constructor
 ·intro h
  obtain ⟨row, hr, hz⟩ := List.mem_flatten.1 h
  obtain ⟨i, hi, rfl⟩ := List.mem_map.1 hr
  obtain ⟨c, hc, rfl⟩ := List.mem_map.1 hz
  have h2 := bounds_get hb hn (List.mem_range.1 hi) c hc
  have hl := hn c hc
  rw [getD_ok h2]
  refine ⟨_, h2, ?_, rfl⟩
  rw [getD_at (by have := List.mem_range.1 hi; omega)]
  exact List.mem_flatten.2 ⟨c, hc, List.getElem_mem _⟩
 ·rintro ⟨j, hj, hm, rfl⟩
  obtain ⟨c, hc, hjc⟩ := List.mem_flatten.1 hm
  obtain ⟨i, hi, rfl⟩ := List.mem_iff_getElem.1 hjc
  have hl := hn c hc
  refine List.mem_flatten.2 ⟨rowF ts cs i, List.mem_map.2 ⟨i, List.mem_range.2 (by omega), rfl⟩, List.mem_map.2 ⟨c, hc, ?_⟩⟩
  rw [getD_at hi, getD_ok hj]
theorem fine_of {m : List UInt8} {F : Fil} (h : Parse m F) (hf : Fine m F) : riseG belowL (rowsF F.ts F.cs F.n) = rowsF F.ts F.cs F.n ∧ textsL (rowsF F.ts F.cs F.n) = F.ts ∧ colsL F.A (rowsF F.ts F.cs F.n) = F.cs ∧ bodyL F.nm F.A (rowsF F.ts F.cs F.n) = m := by
 have K := h.facts
 have hn : ∀ c ∈ F.cs, c.length = F.n := fun c hc => (K.col c hc).2
 have hup := (rise_up K.up hf.ok.bounds hn).1 hf.ok.rise
 obtain ⟨r1, r2, _⟩ := rise_spec strict_below _ (rowsF F.ts F.cs F.n) (Nat.le_refl _)
 have e1 := up_unique strict_below _ _ r1 hup r2
 obtain ⟨t1, t2, _⟩ := texts_spec (rowsF F.ts F.cs F.n)
 have e2 : textsL (rowsF F.ts F.cs F.n) = F.ts := up_unique strict_blt _ _ t1 K.up fun z => by
  rw [t2, mem_rows hf.ok.bounds hn]
  constructor
  ·rintro ⟨j, hj, _, rfl⟩; exact List.getElem_mem _
  ·intro hz
   obtain ⟨j, hj, e⟩ := List.mem_iff_getElem.1 hz
   exact ⟨j, hj, hf.ok.used j hj, e⟩
 have e3 : colsL F.A (rowsF F.ts F.cs F.n) = F.cs := by
  unfold colsL
  rw [e2]
  refine List.ext_getElem (by simp [K.len]) fun c h1 h2 => ?_
  rw [List.getElem_map, List.getElem_range]
  have hl := hn _ (List.getElem_mem h2)
  refine List.ext_getElem (by simp [rowsF_length, hl]) fun i h3 h4 => ?_
  rw [List.getElem_map, rowsF_get]
  have hlt := hf.ok.bounds _ (List.mem_flatten.2 ⟨_, List.getElem_mem h2, List.getElem_mem h4⟩)
  have hr : (rowF F.ts F.cs i).getD c ByteArray.empty = F.ts[F.cs[c][i]] := by
   rw [getD_ok (by simpa [rowF] using h2)]
   simp only [rowF, List.getElem_map]
   rw [getD_at h4, getD_ok hlt]
  rw [hr, plc_get (K.up.nodup strict_blt)]
 refine ⟨e1, e2, e3, ?_⟩
 unfold bodyL
 rw [e1, e2, e3, rowsF_length]
 have := K.form
 rw [hf.fin, List.drop_length, List.append_nil] at this
 exact this.symm
theorem flat_len {A : Nat} : ∀ R : List (List ByteArray), (∀ r ∈ R, r.length = A) → R.flatten.length = R.length * A
 | [], _ => by simp
 | r :: R, h => by
   rw [List.flatten_cons, List.length_append, flat_len R (fun x hx => h x (List.mem_cons_of_mem _ hx)), h r (by simp), List.length_cons, Nat.add_mul]
   omega
theorem fine_back {m : List UInt8} {F : Fil} (hm : m.length ≤ 16777216) (h : Parse m F) (hb : Bounds F.ts.length F.cs) (he : bodyL F.nm F.A (rowsF F.ts F.cs F.n) = m) : Fine m F := by
 have K := h.facts
 have hn : ∀ c ∈ F.cs, c.length = F.n := fun c hc => (K.col c hc).2
 obtain ⟨r1, r2, r3⟩ := rise_spec strict_below _ (rowsF F.ts F.cs F.n) (Nat.le_refl _)
 rw [rowsF_length] at r3
 unfold bodyL at he
 generalize hR : riseG belowL (rowsF F.ts F.cs F.n) = R at *
 obtain ⟨t1, t2, t3⟩ := texts_spec R
 have hmem : ∀ row ∈ R, row.length = F.A ∧ ∀ s ∈ row, s ∈ F.ts := fun row hr => by
  obtain ⟨i, hi, rfl⟩ := List.mem_map.1 ((r2 row).1 hr)
  refine ⟨by simp [rowF, K.len], fun s hs => ?_⟩
  obtain ⟨c, hc, rfl⟩ := List.mem_map.1 hs
  rw [getD_ok (bounds_get hb hn (List.mem_range.1 hi) c hc)]
  exact List.getElem_mem _
 have hsub : ∀ s ∈ textsL R, s ∈ F.ts := fun s hs => by
  obtain ⟨row, hr, hs2⟩ := List.mem_flatten.1 ((t2 s).1 hs)
  exact (hmem row hr).2 s hs2
 have htl : (textsL R).length ≤ 4194304 := by
  rw [flat_len R fun r hr => (hmem r hr).1] at t3
  have h1 : R.length * F.A ≤ 65536 * 64 := Nat.mul_le_mul (Nat.le_trans r3 h.nrl) h.arl
  omega
 have hcol : ∀ c ∈ colsL F.A R, U32 c ∧ c.length = R.length := fun c hc => by
  obtain ⟨j, _, rfl⟩ := List.mem_map.1 hc
  refine ⟨fun x hx => ?_, by simp⟩
  obtain ⟨row, _, rfl⟩ := List.mem_map.1 hx
  have : plcL (textsL R) (row.getD j ByteArray.empty) ≤ (textsL R).length := List.findIdx_le_length
  omega
 obtain ⟨G, g1, g2, g3, g4, g5, g6, g7⟩ := parse_back hm he K.nml h.arl (Nat.le_trans r3 h.nrl) t1 (fun s hs => K.sz s (hsub s hs)) htl (by simp [colsL]) hcol
 obtain rfl := h.same g1
 have hRr : rowsF F.ts F.cs F.n = R := by
  rw [g4, g5, g6]
  refine List.ext_getElem (by rw [rowsF_length]) fun i h1 h2 => ?_
  rw [rowsF_get]
  have hrow := hmem R[i] (List.getElem_mem h2)
  refine List.ext_getElem (by simp [rowF, colsL, hrow.1]) fun c h3 h4 => ?_
  simp only [rowF, colsL, List.getElem_map, List.getElem_range]
  rw [getD_at (by simpa using h2), List.getElem_map, getD_ok h4]
  obtain ⟨q1, q2⟩ := get_plc (l := textsL R) (s := R[i][c]) ((t2 _).2 (List.mem_flatten.2 ⟨_, List.getElem_mem h2, List.getElem_mem h4⟩))
  rw [getD_ok q1, q2]
 refine ⟨?_, g7, hb, ?_, ?_⟩
 ·by_cases h0 : 0 < F.n
  ·exact .inl h0
  ·right
   have : R = [] := List.eq_nil_of_length_eq_zero (by omega)
   rw [g5, this]
   refine List.eq_nil_iff_forall_not_mem.2 fun z hz => ?_
   have := (texts_spec []).2.1 z
   exact absurd (this.1 hz) (by simp)
 ·intro j hj
  have hz : F.ts[j] ∈ (rowsF F.ts F.cs F.n).flatten := by
   rw [hRr, ← t2]
   have hmm : ∀ z, z ∈ F.ts → z ∈ textsL R := fun z hz => by rw [g5] at hz; exact hz
   exact hmm _ (List.getElem_mem hj)
  obtain ⟨k, hk, hm2, e⟩ := (mem_rows hb hn _).1 hz
  rwa [(List.getElem_inj (K.up.nodup strict_blt)).1 e] at hm2
 ·rw [rise_up K.up hb hn, hRr]
  exact r1
end Go.Proofs.YtjoiaejbahdjkaaGreat
/-
  The rows that columns say: the program's laid, walked.
-/
namespace Go.Proofs.YtjoiaejbahdjkaaGreat
open Go Go.RowKit Go.Mine
set_option linter.unusedVariables false
set_option maxHeartbeats 8000000
set_option maxRecDepth 100000
theorem mkBl (n : Nat) (hn : n ≤ 2 ^ 40) (w : World) : (Instr.makeSlice 210 (.int .i64 (n : Nat)) (.int .i64 (n : Nat))).run Tryz.prog w = .ok (.slice (some ⟨w.heap.size, 0, none⟩) n n) (w.alloc (.cells (Array.replicate n (.bool false)) 4)) :=
 mkZ (z := .bool false) (bytes := 1) (by kernel_rfl) (by kernel_rfl) rfl n (by omega) (by omega) w
theorem mkZ0 {P : Program} {t e : TypeId} {z : Value} {bytes : Nat} (ht : P.underlying t = some (.slice e)) (h : (P.info? e).map (fun i => (i.zero, i.size, i.bytes)) = some (some z, 1, bytes)) (hz : z.cells = #[z]) (n : Nat) (hn : bytes * n ≤ 2 ^ 46) (h2 : n ≤ 2 ^ 60) (w : World) :
 (Instr.makeSlice t (.int .i64 0) (.int .i64 (n : Nat))).run P w = .ok (.slice (some ⟨w.heap.size, 0, none⟩) 0 n) (w.alloc (.cells (Array.replicate n z) e)) := by
 obtain ⟨i, h1, h2', h3, h4⟩ := info_parts h
 have hr := run_make w t e i z ht h1 h2' .i64 .i64 0 n (by omega) (by omega) (by rw [h4]; omega) (by omega)
 simp only [Int.toNat_natCast, Int.toNat_zero] at hr
 have e1 : madeCells #[z] n = Array.replicate n z := by
  refine Array.toList_inj.1 ?_
  rw [toList_madeCells_one, Array.toList_replicate]
 rw [hr, h3, Nat.mul_one, hz, e1]
theorem mkS0 (n : Nat) (hn : n ≤ 2 ^ 30) (w : World) : (Instr.makeSlice 81 (.int .i64 0) (.int .i64 (n : Nat))).run Tryz.prog w = .ok (.slice (some ⟨w.heap.size, 0, none⟩) 0 n) (w.alloc (.cells (Array.replicate n (.string ByteArray.empty)) 9)) :=
 mkZ0 (z := .string ByteArray.empty) (bytes := 16) (by kernel_rfl) (by kernel_rfl) rfl n (by omega) (by omega) w
def LPost (ts : List ByteArray) (cs : List (List Nat)) (n : Nat) (w : World) (e : Ending) (w' : World) : Prop :=
 ((LaidOk ts.length cs n ∧ ∃ a c hs, e = .returned (.slice a n c) ∧ LL (fun b => w.heap.size ≤ b) w w' 81 a c hs ((rowsF ts cs n).map sts)) ∨ (¬ LaidOk ts.length cs n ∧ e = .panicked (faultE 70))) ∧ Mod (fun _ => False) w w'
theorem aboveL_on {cs : List (List Nat)} {c i : Nat} (h : c < cs.length) : aboveL (cs.drop c) i = if (((cs[c]).getD i 0 : Nat) : Int) - (((cs[c]).getD (i - 1) 0 : Nat) : Int) = 0 then aboveL (cs.drop (c + 1)) i else (((cs[c]).getD i 0 : Nat) : Int) - (((cs[c]).getD (i - 1) 0 : Nat) : Int) := by
 rw [List.drop_eq_getElem_cons h]; rfl
theorem rowF_len (ts : List ByteArray) (cs : List (List Nat)) (i : Nat) : (rowF ts cs i).length = cs.length := by simp [rowF]
theorem rowF_take {ts : List ByteArray} {cs : List (List Nat)} {i k : Nat} (h : k < cs.length) : sts ((rowF ts cs i).take (k + 1)) = sts ((rowF ts cs i).take k) ++ [.string (ts.getD ((cs[k]).getD i 0) ByteArray.empty)] := by
 have hk : k < (rowF ts cs i).length := by rw [rowF_len]; exact h
 rw [List.take_succ_eq_append_getElem hk]
 simp [sts, rowF]
theorem rowsF_succ (ts : List ByteArray) (cs : List (List Nat)) (i : Nat) : (rowsF ts cs (i + 1)).map sts = (rowsF ts cs i).map sts ++ [sts (rowF ts cs i)] := by
 unfold rowsF; rw [List.range_succ]; simp
theorem rowsF_len (ts : List ByteArray) (cs : List (List Nat)) (n : Nat) : ((rowsF ts cs n).map sts).length = n := by simp [rowsF]
theorem LL.pushN {F : Nat → Prop} {w0 w w3 : World} {e : TypeId} {oa a3 : Option Addr} {oc c3 n m : Nat} {hs : List Value} {xs : List (List Value)} {x : Option Addr} {c : Nat} {ys : List Value} (h : LL F w0 w e oa oc hs xs) (hm : ys.length = m) (hr : Rd w x ys) (hb : ∀ b, blk x = some b → F b ∧ b < w.heap.size ∧ blk oa ≠ some b ∧ Uf w b)
 (hG : Grow w oa w3 a3) (hO : Mine.Own w3 e 1 a3 n c3 (hs ++ [.slice x m c])) (hn : n = xs.length + 1) : LL F w0 w3 e a3 c3 (hs ++ [.slice x m c]) (xs ++ [ys]) := by
 subst hm; exact h.push hr hb hG hO hn
theorem laid_any (ca ta : Option Addr) (cc tc : Nat) (ch : List Value) (cs : List (List Nat)) (ts : List ByteArray) (n : Nat) (w : World) (hC : LLR w ca ch (cs.map u32s)) (hn : ∀ c ∈ cs, c.length = n) (hu : ∀ c ∈ cs, U32 c) (hT : Rd w ta (sts ts)) (hA : cs.length ≤ 64) (hn16 : n ≤ 65536) (ht : ts.length ≤ 4194304) :
 Calls Tryz.prog 131 #[.slice ca cs.length cc, .slice ta ts.length tc, .int .i64 n] w (LPost ts cs n w) := by
 have HC := Hi hC; have HN := Hi hn; have HU := Hi hu; have HT := Hi hT
 clear hC hn hu hT
 have hmk := mkBl ts.length (by omega) w
 go_enter Tryz.func131, Tryz.ntmps131
 go_wp2_with fail
 have HO0 : Hid (Mine.Own (w.alloc (.cells (Array.replicate ts.length (.bool false)) 4)) 4 1 (some ⟨w.heap.size, 0, none⟩) ts.length ts.length (bls (markL ts.length []))) := Hi (by
  have h1 := Mine.Own.made w 4 1 (Array.replicate ts.length (.bool false)) ts.length ts.length (Nat.le_refl _) (by unfold maxLen; omega) (by simp)
  have e : bls (markL ts.length []) = (Array.replicate ts.length (Value.bool false)).toList.take (ts.length * 1) := by
   rw [markL_zero]; simp [bls]
  rw [e]; exact h1)
 have HM0 : Hid (Mod (fun _ => False) w (w.alloc (.cells (Array.replicate ts.length (.bool false)) 4))) := Hi ((Mod.refl _ w).alloc _)
 obtain ⟨B, hB⟩ : ∃ B, B = w.heap.size := ⟨_, rfl⟩
 rw [← hB] at HO0 ⊢
 have HB := Hi hB
 clear hB hmk
 generalize w.alloc (.cells (Array.replicate ts.length (.bool false)) 4) = w1 at *
 generalize hTL : ts.length = T at *
 have HTL := Hi hTL
 clear hTL
 go_loopw [9, 11, 25, 31] (fun _ _ iv _ wr => ∃ i : Nat, iv = .int .i64 i ∧ i ≤ cs.length ∧ Hid (∀ x ∈ (cs.take i).flatten, x < T) ∧ Hid (Mine.Own wr 4 1 (some ⟨B, 0, none⟩) T T (bls (markL T (cs.take i).flatten))) ∧ Hid (Mod (fun _ => False) w wr)) (fun _ _ iv _ _ => cs.length - (intOf iv).toNat)
 case atStart => exact ⟨0, rfl, Nat.zero_le _, Hi (by simp), HO0, HM0⟩
 case round =>
  clear HO0 HM0
  obtain ⟨i, rfl, hi, hX, hO, hM⟩ := hrel
  by_cases hlt : i < cs.length
  ·obtain ⟨b, o, x, xc, rfl, x0', hx⟩ := cols_get HC.out HN.out hlt
   have x0 := hM.out.cell x0' id
   have HX := Hi (fun W (m : Mod (fun _ => False) w W) => hx.mod m (fun _ _ => id))
   clear x0'
   have HL : Hid (cs[i].length = n) := Hi (HN.out _ (List.getElem_mem hlt))
   have HUI : Hid (U32 cs[i]) := Hi (HU.out _ (List.getElem_mem hlt))
   have HFL : Hid ((cs.take (i + 1)).flatten = (cs.take i).flatten ++ cs[i]) := Hi (by rw [List.take_succ_eq_append_getElem hlt, List.flatten_append]; simp)
   have HBD : Hid (Bounds T cs → ∀ y ∈ cs[i], y < T) := Hi (fun h y hy => h y (List.mem_flatten.2 ⟨_, List.getElem_mem hlt, hy⟩))
   generalize hci : cs[i] = ci at *
   generalize hsn : (cs.take i).flatten = sn at *
   clear hx hci hsn
   rename World => wq
   go_wp2_with fail
   go_loopw [11, 31] (fun _ kv wr => ∃ k : Nat, kv = .int .i64 k ∧ k ≤ n ∧ Hid (∀ y ∈ sn ++ ci.take k, y < T) ∧ Hid (Mine.Own wr 4 1 (some ⟨B, 0, none⟩) T T (bls (markL T (sn ++ ci.take k)))) ∧ Hid (Mod (fun _ => False) w wr) ) (fun _ kv _ => n - (intOf kv).toNat)
   case atStart => exact ⟨0, rfl, Nat.zero_le _, Hi (by simpa using hX.out), by rw [List.take_zero, List.append_nil]; exact hO, hM⟩
   case round =>
    obtain ⟨k, rfl, hk, hX3, hO3, hM3⟩ := hrel
    by_cases hlk : k < n
    ·have hkc : k < ci.length := by rw [HL.out]; exact hlk
     obtain ⟨b', o', rfl, y0⟩ := u32_cell (HX.out wr hM3.out) hkc
     have h32 := HUI.out _ (List.getElem_mem hkc)
     have HTK : Hid (sn ++ ci.take (k + 1) = (sn ++ ci.take k) ++ [ci[k]]) := Hi (by rw [List.take_succ_eq_append_getElem hkc, List.append_assoc])
     have HYB : Hid (Bounds T cs → ci[k] < T) := Hi (fun h => HBD.out h _ (List.getElem_mem hkc))
     generalize ci[k] = y at *
     clear hkc
     by_cases hyT : y < T
     ·have hdT : decide ((y : Int) < (T : Int)) = true := by simp; omega
      have HX4 : Hid (∀ z ∈ sn ++ ci.take (k + 1), z < T) := Hi (fun z hz => by
       rw [HTK.out] at hz
       rcases List.mem_append.1 hz with h | h
       ·exact hX3.out z h
       ·rw [List.mem_singleton] at h; rw [h]; exact hyT)
      have f0 : wr.frozen? ⟨B, y, none⟩ = false := hO3.out.frozen rfl
      obtain ⟨bv, z0⟩ : ∃ bv, wr.cell? ⟨B, y, none⟩ = some (.bool bv) := by
       obtain ⟨b9, o9, e9, h9⟩ := bl_cell hO3.out.rd (i := y) (by rw [markL_len]; exact hyT)
       cases e9
       exact ⟨_, by simpa using h9⟩
      rename World => wz
      go_wp2_with fail
      refine (must_true _).mono ?_
      rintro e w7 ⟨rfl, hw7⟩
      obtain rfl : wz = w7 := hw7
      go_wp2_with fail
      have HO4 : Hid (Mine.Own (wz.setCell ⟨B, y, none⟩ (.bool true)) 4 1 (some ⟨B, 0, none⟩) T T (bls (markL T (sn ++ ci.take (k + 1))))) := Hi (by
       have h1 := hO3.out.store y (.bool true)
       have h2 : bls (markL T (sn ++ ci.take (k + 1))) = (bls (markL T (sn ++ ci.take k))).set y (.bool true) := by
        rw [HTK.out, markL_set]
        unfold bls
        rw [List.map_set]
       rw [h2]
       exact h1)
      have HM4 : Hid (Mod (fun _ => False) w (wz.setCell ⟨B, y, none⟩ (.bool true))) := Hi (hM3.out.setCell (p := ⟨B, y, none⟩) (fun h => by have h2 : B < w.heap.size := h; have := HB.out; omega) _)
      go_roundw
      case rel => exact ⟨k + 1, by go_num, hlk, HX4, HO4, HM4⟩
      case measure => simp [intOf]; omega
     ·have hdT : decide ((y : Int) < (T : Int)) = false := by simp; omega
      rename World => wz
      go_wp2_with fail
      refine (must_false _).mono ?_
      rintro e w7 ⟨rfl, hw7⟩
      obtain rfl : wz = w7 := hw7
      go_wp2_with fail
      exact ⟨rfl, .inr ⟨fun h => by have h2 := h.bounds; rw [HTL.out] at h2; exact hyT (HYB.out h2), rfl⟩, hM3.out⟩
    ·obtain rfl : k = n := by omega
     rw [List.take_of_length_le (by rw [HL.out]; exact Nat.le_refl _)] at hX3 hO3
     rw [← HFL.out] at hX3 hO3
     go_wp2_with fail
     go_roundw
     case rel => exact ⟨i + 1, by go_num, hlt, hX3, hO3, hM3⟩
     case measure => simp [intOf]; omega
  ·obtain rfl : i = cs.length := by omega
   rw [List.take_length] at hX hO
   have HXT : Hid (Bounds T cs) := hX
   clear hX
   rename World => wp
   by_cases hus : Used T cs
   ·have HUS := Hi hus
    have HCo : Hid (Calls Tryz.prog 153 #[.slice (some ⟨B, 0, none⟩) T T, .bool false] wp fun e w' => e = .returned (.bool false) ∧ wp = w') := Hi (by
     have h1 := containsB_any (some ⟨B, 0, none⟩) T (markL T cs.flatten) wp hO.out.rd (by rw [markL_len]; omega)
     rw [markL_len, decide_eq_false (fun h => markL_used.2 hus h)] at h1; exact h1)
    clear hus hO
    go_wp2_with fail
    refine HCo.out.mono ?_
    rintro e w7 ⟨rfl, hw7⟩
    obtain rfl : wp = w7 := hw7
    clear HCo
    go_wp2_with fail
    refine (must_true _).mono ?_
    rintro e w7 ⟨rfl, hw7⟩
    obtain rfl : wp = w7 := hw7
    go_wp2_with fail
    go_loopw [12, 13, 14] (fun iv _ _ wr => ∃ i : Nat, iv = .int .i64 i ∧ 1 ≤ i ∧ Hid (∀ j, 1 ≤ j → j < i → 0 < aboveL cs j) ∧ Hid (Mod (fun _ => False) w wr)) (fun iv _ _ _ => n - (intOf iv).toNat)
    case atStart => exact ⟨1, rfl, Nat.le_refl _, Hi (fun j h1 h2 => by omega), hM⟩
    case round =>
     clear hM
     obtain ⟨i, rfl, hi1, hR, hM⟩ := hrel
     by_cases hlt : i < n
     ·rename World => wq
      go_wp2_with fail
      go_loopw [13, 14] (fun av cv wr => ∃ (v : Int) (c : Nat), av = .int .i64 v ∧ cv = .int .i64 c ∧ c ≤ cs.length ∧ -4294967296 < v ∧ v < 4294967296 ∧ Hid (aboveL cs i = if v = 0 then aboveL (cs.drop c) i else v) ∧ Hid (Mod (fun _ => False) w wr)) (fun _ cv _ => cs.length - (intOf cv).toNat)
      case atStart => exact ⟨0, 0, rfl, rfl, Nat.zero_le _, by omega, by omega, Hi (by simp), hM⟩
      case round =>
       obtain ⟨v, c, rfl, rfl, hc, hv1, hv2, hV, hM6⟩ := hrel
       by_cases hlc : c < cs.length
       ·by_cases hv0 : v = 0
        ·subst hv0
         obtain ⟨b, o, x, xc, rfl, x0', hx⟩ := cols_get HC.out HN.out hlc
         have x0 := hM6.out.cell x0' id
         have hL : cs[c].length = n := HN.out _ (List.getElem_mem hlc)
         have hui : i < (cs[c]).length := by rw [hL]; exact hlt
         have hui2 : i - 1 < (cs[c]).length := by rw [hL]; omega
         obtain ⟨b', o', rfl, y0'⟩ := u32_cell hx hui
         obtain ⟨b2', o2', e2', z0'⟩ := u32_cell hx hui2
         cases e2'
         have y0 := hM6.out.cell y0' id
         have z0 := hM6.out.cell z0' id
         have hp32 := HU.out _ (List.getElem_mem hlc) _ (List.getElem_mem hui)
         have hq32 := HU.out _ (List.getElem_mem hlc) _ (List.getElem_mem hui2)
         have hab := aboveL_on (i := i) hlc
         rw [getD_at hui, getD_at hui2] at hab
         have HAB := Hi hab
         clear hab x0' y0' z0' hx
         generalize cs[c][i] = p at *
         generalize cs[c][i - 1] = q at *
         clear hui hui2 hL
         have hin : ((i : Int) - 1).toNat = i - 1 := by omega
         rename World => ws
         go_wp2_with fail
         refine wp_region_ord (fun w' => w'.cell? ⟨b, o + c, none⟩ = some (.slice (some ⟨b', o', none⟩) n xc) ∧ w'.cell? ⟨b', o' + i, none⟩ = some (.int .u32 (p : Nat)) ∧ w'.cell? ⟨b', o' + (i - 1), none⟩ = some (.int .u32 (q : Nat))) [(0, 0), (0, 1), (0, 2), (1, 3), (0, 4), (0, 5), (1, 6), (0, 7), (0, 8), (0, 9), (0, 10), (1, 11), (0, 12), (0, 13), (0, 14), (1, 15), (0, 16), (0, 17), (0, 18)] (by kernel_rfl) (by kernel_rfl) ?_
         go_wp2_with (first
          |(refine ord_pure rfl rfl rfl (fun K hK => ?_); go_big_quiet_op; refine hK _ ?_; clear hK K)
          |(refine ord_held rfl rfl rfl (⟨x0, y0, z0⟩) (fun K hK => ?_); apply Exists.intro; refine ⟨fun w' hs => ?_, hK _ ?_⟩; (revert hs; dsimp only; (try simp only [and_imp]); intros; go_simp; rfl); clear hK K)
          |(refine ord_nil ?_))
         go_roundw
         case rel =>
          refine ⟨(p : Int) - q, c + 1, by go_num, by go_num, hlc, by omega, by omega, Hi ?_, Hi (hM6.out.drew)⟩
          have h1 := hV.out
          rw [if_pos trivial] at h1
          rw [h1]
          exact HAB.out
         case measure => simp [intOf]; omega
        ·have HEX : Hid (aboveL cs i = v) := Hi (by rw [hV.out, if_neg hv0])
         clear hV
         have hlc2 := Hi hlc
         by_cases hpos : 0 < v
         ·have hdp : decide (0 < v) = true := decide_eq_true hpos
          have HR2 : Hid (∀ j, 1 ≤ j → j < i + 1 → 0 < aboveL cs j) := Hi (fun j h1 h2 => by
           by_cases hji : j = i
           ·rw [hji, HEX.out]; exact hpos
           ·exact hR.out j h1 (by omega))
          go_wp2_with fail
          refine (must_true _).mono ?_
          rintro e w7 ⟨rfl, hw7⟩
          have HM7 : Hid (Mod (fun _ => False) w w7) := Hi (by rw [← hw7]; exact hM6.out)
          clear hw7
          go_wp2_with fail
          go_roundw
          case rel => exact ⟨i + 1, by go_num, by omega, HR2, HM7⟩
          case measure => simp [intOf]; omega
         ·have hdp : decide (0 < v) = false := decide_eq_false hpos
          go_wp2_with fail
          refine (must_false _).mono ?_
          rintro e w7 ⟨rfl, hw7⟩
          have HM7 : Hid (Mod (fun _ => False) w w7) := Hi (by rw [← hw7]; exact hM6.out)
          clear hw7
          go_wp2_with fail
          exact ⟨rfl, .inr ⟨fun h => absurd (h.rise i hi1 hlt) (by rw [HEX.out]; omega), rfl⟩, HM7.out⟩
       ·have HEX : Hid (aboveL cs i = v) := Hi (by
         rw [hV.out]
         by_cases hv0 : v = 0
         ·rw [if_pos hv0, hv0, List.drop_of_length_le (by omega)]; rfl
         ·rw [if_neg hv0])
        clear hV
        by_cases hpos : 0 < v
        ·have hdp : decide (0 < v) = true := decide_eq_true hpos
         have HR2 : Hid (∀ j, 1 ≤ j → j < i + 1 → 0 < aboveL cs j) := Hi (fun j h1 h2 => by
          by_cases hji : j = i
          ·rw [hji, HEX.out]; exact hpos
          ·exact hR.out j h1 (by omega))
         go_wp2_with fail
         refine (must_true _).mono ?_
         rintro e w7 ⟨rfl, hw7⟩
         have HM7 : Hid (Mod (fun _ => False) w w7) := Hi (by rw [← hw7]; exact hM6.out)
         clear hw7
         go_wp2_with fail
         go_roundw
         case rel => exact ⟨i + 1, by go_num, by omega, HR2, HM7⟩
         case measure => simp [intOf]; omega
        ·have hdp : decide (0 < v) = false := decide_eq_false hpos
         go_wp2_with fail
         refine (must_false _).mono ?_
         rintro e w7 ⟨rfl, hw7⟩
         have HM7 : Hid (Mod (fun _ => False) w w7) := Hi (by rw [← hw7]; exact hM6.out)
         clear hw7
         go_wp2_with fail
         exact ⟨rfl, .inr ⟨fun h => absurd (h.rise i hi1 hlt) (by rw [HEX.out]; omega), rfl⟩, HM7.out⟩
     ·have HRI : Hid (Rise cs n) := Hi (fun j h1 h2 => hR.out j h1 (by omega))
      clear hR
      rename World => wq
      go_wp2_with fail
      go_loopw [15, 16, 17, 19, 87, 95] (fun rv _ _ _ iv _ wr => ∃ (r : Nat) (oa : Option Addr) (oc : Nat) (hs : List Value), iv = .int .i64 r ∧ rv = .slice oa r oc ∧ r ≤ n ∧ Hid (LL (fun b => w.heap.size ≤ b) w wr 81 oa oc hs ((rowsF ts cs r).map sts))) (fun _ _ _ _ iv _ _ => n - (intOf iv).toNat)
      case atStart => exact ⟨0, none, 0, [], rfl, rfl, Nat.zero_le _, Hi ((LL.nil _ _ w).mod0 hM.out)⟩
      case round =>
       clear hM
       obtain ⟨r, oa, oc, hs, rfl, rfl, hr, hL⟩ := hrel
       by_cases hlr : r < n
       ·have hmk2 := mkS0 cs.length (by omega) wr
        rename World => wq2
        go_wp2_with fail
        have hRow : Hid (Mine.Own (wq2.alloc (.cells (Array.replicate cs.length (.string ByteArray.empty)) 9)) 9 1 (some ⟨wq2.heap.size, 0, none⟩) 0 cs.length (sts ((rowF ts cs r).take 0))) := Hi (by
         have h1 := Mine.Own.made wq2 9 1 (Array.replicate cs.length (.string ByteArray.empty)) 0 cs.length (Nat.zero_le _) (by unfold maxLen; omega) (by simp)
         exact h1)
        have hMr : Hid (Mod (fun _ => False) wq2 (wq2.alloc (.cells (Array.replicate cs.length (.string ByteArray.empty)) 9))) := Hi ((Mod.refl _ wq2).alloc _)
        obtain ⟨R, hR⟩ : ∃ R, R = wq2.heap.size := ⟨_, rfl⟩
        rw [← hR] at hRow ⊢
        have HRR := Hi hR
        clear hR hmk2
        generalize wq2.alloc (.cells (Array.replicate cs.length (.string ByteArray.empty)) 9) = w2 at *
        go_loopw [17, 19, 95] (fun rv _ kv wr => ∃ (k : Nat) (ra : Option Addr) (rc : Nat), rv = .slice ra k rc ∧ kv = .int .i64 k ∧ k ≤ cs.length ∧ Hid (Mine.Own wr 9 1 ra k rc (sts ((rowF ts cs r).take k))) ∧ Hid (∀ b, blk ra = some b → R ≤ b) ∧ Hid (Mod (fun _ => False) wq2 wr)) (fun _ _ kv _ => cs.length - (intOf kv).toNat)
        case atStart => exact ⟨0, some ⟨R, 0, none⟩, cs.length, rfl, rfl, Nat.zero_le _, hRow, Hi (fun b hb => Nat.le_of_eq (by simpa [blk] using hb)), hMr⟩
        case round =>
         clear hRow hMr
         obtain ⟨k, ra, rc, rfl, rfl, hk, hO6, hB6, hM6⟩ := hrel
         by_cases hlk : k < cs.length
         ·obtain ⟨b, o, x, xc, rfl, x0', hx⟩ := cols_get HC.out HN.out hlk
          have hMw : Mod (fun _ => False) w wr := hL.out.md.step hM6.out (fun _ _ => id)
          have x0 := hMw.cell x0' id
          have hLc : cs[k].length = n := HN.out _ (List.getElem_mem hlk)
          have hui : r < (cs[k]).length := by rw [hLc]; exact hlr
          obtain ⟨b', o', rfl, y0'⟩ := u32_cell hx hui
          have y0 := hMw.cell y0' id
          have hpT : cs[k][r] < T := HXT.out _ (List.mem_flatten.2 ⟨_, List.getElem_mem hlk, List.getElem_mem hui⟩)
          have hpT2 : cs[k][r] < ts.length := by rw [HTL.out]; exact hpT
          have hp32 := HU.out _ (List.getElem_mem hlk) _ (List.getElem_mem hui)
          obtain ⟨b2, o2, rfl, z0'⟩ := str_cell HT.out hpT2
          have z0 := hMw.cell z0' id
          have htk := rowF_take (ts := ts) (i := r) hlk
          rw [getD_at hui, List.getD_eq_getElem?_getD, List.getElem?_eq_getElem hpT2, Option.getD_some] at htk
          have HTK := Hi htk
          clear htk x0' y0' z0' hx hMw
          generalize ts[cs[k][r]] = s at *
          clear hpT2
          generalize cs[k][r] = p at *
          clear hui hLc
          go_wp2_with (at_builtin; refine wpL_appendN (us := [.string s]) rfl (.tmp 99) (.tmp 107) 81 rfl ti22r rfl hO6.out rfl rfl rfl (by show (k + 1) * 16 ≤ _; omega) (by show k + 1 ≤ _; unfold maxLen; omega) ?_; intro a4 c4 w4 hO4 hG4 _
                       have HO4 := Hi hO4; have HG4 := Hi hG4; clear hO4 hG4)
          go_roundw
          case rel =>
           refine ⟨k + 1, a4, c4, rfl, by go_num, hlk, Hi (by rw [HTK.out]; exact HO4.out), Hi (fun b hb => ?_), Hi (hM6.out.step HG4.out.mod (fun b hb e => by have h1 := hB6.out b e; have h2 := HRR.out; omega))⟩
           rcases HG4.out.pos with e | ⟨b3, e, hb3⟩
           ·rw [e] at hb; exact hB6.out b hb
           ·rw [e] at hb; cases hb
            have h1 := hM6.out.size
            have h2 := HRR.out
            omega
          case measure => simp [intOf]; omega
         ·obtain rfl : k = cs.length := by omega
          have hrow := hO6.out
          rw [List.take_of_length_le (by rw [rowF_len]; exact Nat.le_refl _)] at hrow
          have HROW := Hi hrow
          have HLL := Hi (hL.out.mod0 hM6.out)
          have hown : Mine.Own wr 81 1 oa r oc hs := by have h1 := HLL.out.own; rwa [rowsF_len] at h1
          have HB7 : Hid (∀ b, blk ra = some b → w.heap.size ≤ b ∧ b < wr.heap.size ∧ blk oa ≠ some b ∧ Uf wr b) := Hi (fun b hb => by
           have h1 := hB6.out b hb
           have h2 := HRR.out
           have h3 := hL.out.md.size
           exact ⟨by omega, HROW.out.lt b hb, fun e => by have h4 := hL.out.own.lt b e; omega, Own.uf HROW.out hb⟩)
          clear hrow hO6
          go_wp2_with (at_builtin; refine wpL_appendN (us := [.slice ra cs.length rc]) rfl (.tmp 110) (.tmp 112) 84 rfl tiLLS rfl hown rfl rfl rfl (by show (r + 1) * 24 ≤ _; omega) (by show r + 1 ≤ _; unfold maxLen; omega) ?_; intro a5 c5 w5 hO5 hG5 _
                       have HLP : Hid (LL (fun b => w.heap.size ≤ b) w w5 81 a5 c5 (hs ++ [.slice ra cs.length rc]) ((rowsF ts cs (r + 1)).map sts)) := Hi (by
                        rw [rowsF_succ]
                        exact HLL.out.pushN (by simp [rowF_len]) HROW.out.rd HB7.out hG5 hO5 (by rw [rowsF_len]))
                       clear hO5 hG5)
          go_roundw
          case rel => exact ⟨r + 1, a5, c5, _, by go_num, rfl, hlr, HLP⟩
          case measure => simp [intOf]; omega
       ·obtain rfl : r = n := by omega
        go_wp2_with fail
        go_ret
        exact ⟨.inl ⟨by rw [HTL.out]; exact ⟨HXT.out, HUS.out, HRI.out⟩, oa, oc, hs, rfl, hL.out⟩, hL.out.md⟩
   ·have HUS := Hi hus
    have HCo : Hid (Calls Tryz.prog 153 #[.slice (some ⟨B, 0, none⟩) T T, .bool false] wp fun e w' => e = .returned (.bool true) ∧ wp = w') := Hi (by
     have h1 := containsB_any (some ⟨B, 0, none⟩) T (markL T cs.flatten) wp hO.out.rd (by rw [markL_len]; omega)
     rw [markL_len, decide_eq_true (Classical.byContradiction fun h => hus (markL_used.1 h))] at h1; exact h1)
    clear hus hO
    go_wp2_with fail
    refine HCo.out.mono ?_
    rintro e w7 ⟨rfl, hw7⟩
    obtain rfl : wp = w7 := hw7
    clear HCo
    go_wp2_with fail
    refine (must_false _).mono ?_
    rintro e w7 ⟨rfl, hw7⟩
    obtain rfl : wp = w7 := hw7
    go_wp2_with fail
    exact ⟨rfl, .inr ⟨fun h => by have h2 := h.used; rw [HTL.out] at h2; exact HUS.out h2, rfl⟩, hM.out⟩
end Go.Proofs.YtjoiaejbahdjkaaGreat
/-
  What read, guarded, Decode and Look answer; the things that read holds.
-/
namespace Go.Proofs.YtjoiaejbahdjkaaGreat
open Go Go.RowKit Go.Mine
set_option linter.unusedVariables false
def midL (l : List UInt8) : List UInt8 := (l.drop 10).take (l.length - 14)
def relV (F : Fil) (a : Option Addr) (c : Nat) : Value := .agg #[.string ⟨F.nm.toArray⟩, .int .i64 F.A, .slice a F.n c]
def statV (F : Fil) (a : Option Addr) (c : Nat) : Value := .agg #[.string ⟨F.nm.toArray⟩, .int .i64 F.A, .int .i64 F.n, .int .i64 F.ts.length, .int .i64 F.d, .slice a F.A c]
def GoodF (l : List UInt8) (F : Fil) : Prop := headF l = 0 ∧ Parse (midL l) F ∧ Fine (midL l) F
def RowsAt (L : Nat) (w0 w : World) (F : Fil) (a : Option Addr) (c : Nat) : Prop := ∃ hs, LL (fun b => L ≤ b) w0 w 81 a c hs ((rowsF F.ts F.cs F.n).map sts)
def BadF (l : List UInt8) (c : Nat) : Prop := (headF l ≠ 0 ∧ c = headF l) ∨ (headF l = 0 ∧ (∀ F, Parse (midL l) F → ¬ Fine (midL l) F) ∧ c = 70)
def FileP (l : List UInt8) (w : World) (e : Ending) (w' : World) : Prop :=
 ((∃ k, BadF l k ∧ e = .panicked (faultE k)) ∨
   (∃ F a c pa pc, GoodF l F ∧ e = .returned (.tuple #[relV F a c, statV F pa pc]) ∧ RowsAt w.heap.size w w' F a c ∧ Rd w' pa (F.ps.map fun n : Nat => .int .i64 n) ∧ ∀ b, blk pa = some b → w.heap.size ≤ b)) ∧ Mod (fun _ => False) w w'
def rdrI (p : Nat) (a : Option Addr) (c : Nat) (l : List UInt8) (at_ : Nat) : It :=
 ⟨fun b => b = p ∨ (l ≠ [] ∧ blk a = some b), fun w => RdAt w p a c l at_ 0,
  fun S w w' h m hs => h.modE m (hs p (.inl rfl)) fun b hb => by
   by_cases hl : l = []
   ·exact .inl hl
   ·exact .inr (hs b (.inr ⟨hl, hb⟩)),
  fun w h b hb => by
   rcases hb with rfl | ⟨hl, hb⟩
   ·exact (Array.getElem?_eq_some_iff.1 h.heap).1
   ·exact (h.blt b hb).resolve_left hl⟩
def boxI (B : Nat) (vs : Array Value) (t : TypeId) : It :=
 ⟨fun b => b = B, fun w => w.heap[B]? = some (.cells vs t (0, 0)), fun S w w' h m hs => m.at h (hs B rfl), fun w h b e => by subst e; exact (Array.getElem?_eq_some_iff.1 h).1⟩
def rdI (a : Option Addr) (xs : List Value) : It :=
 ⟨fun b => xs ≠ [] ∧ blk a = some b, fun w => Rd w a xs,
  fun S w w' h m hs => by
   by_cases hx : xs = []
   ·subst hx; exact Rd.nil _ _
   ·exact h.mod m fun b hb => hs b ⟨hx, hb⟩,
  fun w h b hb => h.lt hb.1 b hb.2⟩
structure RS (w0 w : World) (is : List It) : Prop where
 fam : Fam w0.heap.size w is
 md : Mod (fun _ => False) w0 w
section
variable {w0 w w' : World} {is : List It} {i' : It}
theorem RS.set (h : RS w0 w is) {k : Nat} (hk : k < is.length) (m : Mod (is[k]).F w w') (hi : i'.P w') (hf : ∀ b, i'.F b → (is[k]).F b ∨ w.heap.size ≤ b) : RS w0 w' (is.set k i') :=
 ⟨h.fam.set hk m hi hf, h.fam.base (Nat.le_refl _) h.md (List.getElem_mem hk) m⟩
theorem RS.mod0 (h : RS w0 w is) (m : Mod (fun _ => False) w w') : RS w0 w' is := ⟨h.fam.mod0 m, h.md.step m fun _ _ e => e⟩
theorem RS.push (h : RS w0 w is) (m : Mod (fun _ => False) w w') (hi : i'.P w') (hl : ∀ b, i'.F b → w.heap.size ≤ b) : RS w0 w' (is ++ [i']) := ⟨h.fam.push m hi hl, h.md.step m fun _ _ e => e⟩
theorem RS.get (h : RS w0 w is) {k : Nat} (hk : k < is.length) : (is[k]).P w := h.fam.at_ _ (List.getElem_mem hk)
theorem RS.cell {B : Nat} {vs : Array Value} {t : TypeId} (h : RS w0 w is) {k : Nat} (hk : k < is.length) (hi : is[k] = boxI B vs t) (j : Nat) (v : Value) : RS w0 (w.setCell ⟨B, j, none⟩ v) (is.set k (boxI B (vs.setIfInBounds j v) t)) := by
 have hP := h.get hk
 rw [hi] at hP
 exact h.set hk (by rw [hi]; exact (Mod.refl (fun b => b = B) w).setCell (p := ⟨B, j, none⟩) (fun _ => rfl) _) (heap_setCell_at v hP) (fun b hb => .inl (by rw [hi]; exact hb))
end
theorem LL.close {F : Nat → Prop} {w0 wl w w' : World} {S : Nat → Prop} {e : TypeId} {oa : Option Addr} {oc : Nat} {hs : List Value} {xs : List (List Value)} (h : LL F wl w e oa oc hs xs) (m0 : Mod (fun _ => False) w0 wl) (m : Mod S w w') (hF : ∀ b, F b → wl.heap.size ≤ b) (hS : ∀ b, S b → w0.heap.size ≤ b ∧ b < wl.heap.size) :
 LL (fun b => w0.heap.size ≤ b) w0 w' e oa oc hs xs :=
 ⟨h.len, h.own.mod m fun b hb e => by have := h.fr b hb; have := (hS b e).2; omega, fun j hj => by
  obtain ⟨x, c, h1, h2, h3⟩ := h.row j hj
  refine ⟨x, c, h1, h2.mod m fun b hb e => ?_, fun b hb => ⟨?_, Nat.lt_of_lt_of_le (h3 b hb).2.1 m.size, (h3 b hb).2.2.1, (h3 b hb).2.2.2.mod m fun e => by have := hF b (h3 b hb).1; have := (hS b e).2; omega⟩⟩
  ·have := hF b (h3 b hb).1; have := (hS b e).2; omega
  ·exact Nat.le_trans m0.size (hF b (h3 b hb).1), fun b hb => Nat.le_trans m0.size (h.fr b hb),
  (m0.step h.md fun _ _ e => e).step m fun b hb e => by have := (hS b e).1; omega⟩
theorem LL.back {F : Nat → Prop} {w0 wl w : World} {e : TypeId} {oa : Option Addr} {oc : Nat} {hs : List Value} {xs : List (List Value)} (h : LL F wl w e oa oc hs xs) (m0 : Mod (fun _ => False) w0 wl) (hF : ∀ b, F b → wl.heap.size ≤ b) : LL (fun b => w0.heap.size ≤ b) w0 w e oa oc hs xs :=
 h.close m0 (Mod.refl (fun _ => False) w) hF fun _ e => e.elim
theorem heads_llr {w : World} {ca : Option Addr} {qs : List (Sl × List Nat)} (h : Rd w ca (qs.map fun q => q.1.val)) (hq : ∀ q ∈ qs, q.1.n = q.2.length ∧ Rd w q.1.a (u32s q.2)) : LLR w ca (qs.map fun q => q.1.val) ((qs.map (·.2)).map u32s) :=
 ⟨by simp, h, fun j hj => by
  have hjq : j < qs.length := by simpa using hj
  obtain ⟨h1, h2⟩ := hq _ (List.getElem_mem hjq)
  refine ⟨qs[j].1.a, qs[j].1.c, ?_, ?_⟩
  ·rw [List.getElem?_map, List.getElem?_eq_getElem hjq]
   simp only [Option.map_some, List.getElem_map, u32s_len, Sl.val, h1]
  ·simpa using h2⟩
theorem parse_det {m nm : List UInt8} {x0 A x1 n x2 d : Nat} {ts : List ByteArray} {F : Fil} (h0 : stText 4096 m 0 0 = (nm, x0, 0)) (h1 : stNum m x0 0 = (A, x1, 0)) (h2 : stNum m x1 0 = (n, x2, 0)) (h3 : readL (m.drop x2) = (ts, d, 0)) (hF : Parse m F) :
 F.nm = nm ∧ F.a0 = x0 ∧ F.A = A ∧ F.a1 = x1 ∧ F.n = n ∧ F.a2 = x2 ∧ F.ts = ts ∧ F.d = d := by
 obtain ⟨nm', a0', A', a1', n', a2', ts', d', cs', ps', fin'⟩ := F
 obtain ⟨g1, g2, _, g3, _, g4, _⟩ := hF
 simp only at *
 rw [h0] at g1; simp only [Prod.mk.injEq, and_true] at g1; obtain ⟨rfl, rfl⟩ := g1
 rw [h1] at g2; simp only [Prod.mk.injEq, and_true] at g2; obtain ⟨rfl, rfl⟩ := g2
 rw [h2] at g3; simp only [Prod.mk.injEq, and_true] at g3; obtain ⟨rfl, rfl⟩ := g3
 rw [h3] at g4; simp only [Prod.mk.injEq, and_true] at g4; obtain ⟨rfl, rfl⟩ := g4
 exact ⟨rfl, rfl, rfl, rfl, rfl, rfl, rfl, rfl⟩
theorem colsGo_err {m : List UInt8} {n k a : Nat} {cs : List (List Nat)} {ps : List Nat} (h : (stText 16777216 m a 0).2.2 ≠ 0) : colsGo m n (k + 1) a cs ps = none := by rw [colsGo, if_pos h]
theorem colsGo_dec {m x : List UInt8} {n k a a' : Nat} {cs : List (List Nat)} {ps : List Nat} (h : stText 16777216 m a 0 = (x, a', 0)) (hd : decP n x = none) : colsGo m n (k + 1) a cs ps = none := by rw [colsGo, h]; simp only; rw [if_neg (by simp), hd]
theorem colsGo_on {m x : List UInt8} {n k a a' : Nat} {cs : List (List Nat)} {ps : List Nat} {c : List Nat} (h : stText 16777216 m a 0 = (x, a', 0)) (hd : decP n x = some c) : colsGo m n (k + 1) a cs ps = colsGo m n k a' (cs ++ [c]) (ps ++ [x.length]) := by
 rw [colsGo, h]; simp only; rw [if_neg (by simp), hd]
theorem text_num1 {most : Nat} {m : List UInt8} {a k x f : Nat} (h : stNum m a 0 = (k, x, f)) (hb : f ≠ 0 ∨ most < k) : (stText most m a 0).2.2 ≠ 0 := by
 unfold stText
 rw [if_neg (by simp)]
 by_cases he : (getL (m.drop a)).2.2 = 0
 ·rw [stNum_ok he] at h
  simp only [Prod.mk.injEq] at h
  rw [if_neg (by simp [he]), h.1, if_pos (by omega)]
  simp
 ·rw [if_pos he]; exact he
theorem text_num2 {most : Nat} {m : List UInt8} {a k x : Nat} (h : stNum m a 0 = (k, x, 0)) (hb : k ≤ most) : stText most m a 0 = if m.length - x < k then ([], a, 10) else ((m.drop x).take k, x + k, 0) := by
 unfold stText
 rw [if_neg (by simp)]
 by_cases he : (getL (m.drop a)).2.2 = 0
 ·rw [stNum_ok he] at h
  simp only [Prod.mk.injEq] at h
  rw [if_neg (by simp [he]), h.1, h.2.1, if_neg (by omega)]
 ·rw [stNum_err he] at h
  simp only [Prod.mk.injEq] at h
  exact absurd h.2.2 he
theorem mkLL (n : Nat) (hn : n ≤ 2 ^ 30) (w : World) : (Instr.makeSlice 161 (.int .i64 (n : Nat)) (.int .i64 (n : Nat))).run Tryz.prog w = .ok (.slice (some ⟨w.heap.size, 0, none⟩) n n) (w.alloc (.cells (Array.replicate n (.slice none 0 0)) 162)) :=
 mkZ (z := .slice none 0 0) (bytes := 24) (by kernel_rfl) (by kernel_rfl) rfl n (by omega) (by omega) w
theorem tiI : TI Tryz.prog 97 3 1 8 := TI.mk' (z := .int .i64 0) (by kernel_rfl) (by kernel_rfl) rfl (by omega)
def ns (l : List Nat) : List Value := l.map fun n : Nat => .int .i64 n
theorem ns_snoc (l : List Nat) (n : Nat) : ns (l ++ [n]) = ns l ++ [.int .i64 n] := by simp [ns]
theorem ns_len (l : List Nat) : (ns l).length = l.length := by simp [ns]
def itsG (pre : List It) (qs : List (Sl × List Nat)) : List It := pre ++ qs.map fun q => rdI q.1.a (u32s q.2)
theorem RS.pushq {w0 w w' : World} {pre : List It} {qs : List (Sl × List Nat)} (h : RS w0 w (itsG pre qs)) {s : Sl} {c : List Nat} (m : Mod (fun _ => False) w w') (hr : Rd w' s.a (u32s c)) (hl : ∀ b, blk s.a = some b → w.heap.size ≤ b) : RS w0 w' (itsG pre (qs ++ [(s, c)])) := by
 have h1 := h.push (i' := rdI s.a (u32s c)) m hr (fun b hb => hl b hb.2)
 have e : itsG pre (qs ++ [(s, c)]) = itsG pre qs ++ [rdI s.a (u32s c)] := by simp [itsG]
 rw [e]; exact h1
theorem itsG_get {pre : List It} {qs : List (Sl × List Nat)} {k : Nat} (hk : k < pre.length) : ∃ h : k < (itsG pre qs).length, (itsG pre qs)[k] = pre[k] :=
 ⟨by unfold itsG; rw [List.length_append]; omega, List.getElem_append_left hk⟩
theorem RS.setq {w0 w w' : World} {pre : List It} {qs : List (Sl × List Nat)} {i' : It} (h : RS w0 w (itsG pre qs)) {k : Nat} (hk : k < pre.length) (m : Mod (pre[k]).F w w') (hi : i'.P w') (hf : ∀ b, i'.F b → (pre[k]).F b ∨ w.heap.size ≤ b) : RS w0 w' (itsG (pre.set k i') qs) := by
 obtain ⟨h1, h2⟩ := itsG_get (qs := qs) hk
 have h3 := h.set h1 (i' := i') (by rw [h2]; exact m) hi (by rw [h2]; exact hf)
 have e : itsG (pre.set k i') qs = (itsG pre qs).set k i' := by unfold itsG; rw [List.set_append_left _ _ hk]
 rw [e]; exact h3
theorem RS.getq {w0 w : World} {pre : List It} {qs : List (Sl × List Nat)} (h : RS w0 w (itsG pre qs)) {k : Nat} (hk : k < pre.length) : (pre[k]).P w := by
 obtain ⟨h1, h2⟩ := itsG_get (qs := qs) hk
 rw [← h2]; exact h.get h1
theorem RS.cellq {w0 w : World} {pre : List It} {qs : List (Sl × List Nat)} {B : Nat} {vs : Array Value} {t : TypeId} (h : RS w0 w (itsG pre qs)) {k : Nat} (hk : k < pre.length) (hi : pre[k] = boxI B vs t) (j : Nat) (v : Value) : RS w0 (w.setCell ⟨B, j, none⟩ v) (itsG (pre.set k (boxI B (vs.setIfInBounds j v) t)) qs) := by
 have hP := h.getq hk
 rw [hi] at hP
 exact h.setq hk (by rw [hi]; exact (Mod.refl (fun b => b = B) w).setCell (p := ⟨B, j, none⟩) (fun _ => rfl) _) (heap_setCell_at v hP) (fun b hb => .inl (by rw [hi]; exact hb))
theorem RS.loq {w0 w : World} {pre : List It} {qs : List (Sl × List Nat)} (h : RS w0 w (itsG pre qs)) {k : Nat} (hk : k < pre.length) : ∀ b, (pre[k]).F b → w0.heap.size ≤ b := fun b hb =>
 h.fam.lo _ (List.mem_append_left _ (List.getElem_mem hk)) b hb
theorem RS.ls {w0 w : World} {pre : List It} {qs : List (Sl × List Nat)} (h : RS w0 w (itsG pre qs)) : ∀ q ∈ qs, Rd w q.1.a (u32s q.2) := fun q hq =>
 h.fam.at_ (rdI q.1.a (u32s q.2)) (List.mem_append_right _ (List.mem_map.2 ⟨q, hq, rfl⟩))
def colV (A : Nat) (qs : List (Sl × List Nat)) : List Value := qs.map (fun q => q.1.val) ++ List.replicate (A - qs.length) (.slice none 0 0)
theorem colV_zero (A : Nat) : colV A [] = List.replicate A (.slice none 0 0) := by simp [colV]
theorem colV_get {A : Nat} {qs : List (Sl × List Nat)} (h : qs.length < A) : (colV A qs)[qs.length]? = some (.slice none 0 0) := by
 unfold colV
 rw [List.getElem?_append_right (by simp)]
 simp only [List.length_map, Nat.sub_self]
 rw [List.getElem?_replicate, if_pos (by omega)]
theorem colV_set {A : Nat} {qs : List (Sl × List Nat)} (h : qs.length < A) (s : Sl) (c : List Nat) : (colV A qs).set qs.length s.val = colV A (qs ++ [(s, c)]) := by
 unfold colV
 rw [List.set_append_right _ _ (by simp)]
 simp only [List.length_map, Nat.sub_self, List.map_append, List.map_cons, List.map_nil, List.length_append, List.length_cons, List.length_nil, List.append_assoc]
 congr 1
 rw [show A - qs.length = (A - (qs.length + 1)) + 1 by omega, List.replicate_succ]
 rfl
theorem colV_full {A : Nat} {qs : List (Sl × List Nat)} (h : qs.length = A) : colV A qs = qs.map fun q => q.1.val := by simp [colV, h]
end Go.Proofs.YtjoiaejbahdjkaaGreat
/-
  The document's Below, merged, Rising: walked.
-/
namespace Go.Proofs.YtjoiaejbahdjkaaGreat
open Go Go.RowKit Go.Mine
set_option linter.unusedVariables false
set_option maxHeartbeats 4000000
set_option maxRecDepth 100000
theorem below_any (a b : Option Addr) (ca cb : Nat) (x y : List ByteArray) (n : Nat) (w : World) (hx : Rd w a (sts x)) (hy : Rd w b (sts y)) (hnx : x.length = n) (hny : y.length = n) (hn : n < 2 ^ 40) :
 Calls Tryz.prog 156 #[.slice a n ca, .slice b n cb] w fun e w' => e = .returned (.bool (belowL x y)) ∧ Mod (fun _ => False) w w' := by
 have HX := Hi hx; have HY := Hi hy; have HNX := Hi hnx; have HNY := Hi hny
 clear hx hy hnx hny
 go_enter Tryz.func156, Tryz.ntmps156
 go_wp2_with fail
 go_loopw [5] (fun iv wr => ∃ i : Nat, iv = .int .i64 i ∧ i ≤ n ∧ Hid (belowL x y = belowL (x.drop i) (y.drop i)) ∧ Hid (Mod (fun _ => False) w wr)) (fun iv _ => n - (intOf iv).toNat)
 case atStart => exact ⟨0, rfl, Nat.zero_le _, Hi rfl, Hi (Mod.refl _ _)⟩
 case round =>
  obtain ⟨i, rfl, hi, hE, hM⟩ := hrel
  by_cases hlt : i < n
  ·have hix : i < x.length := by rw [HNX.out]; exact hlt
   have hiy : i < y.length := by rw [HNY.out]; exact hlt
   obtain ⟨b1, o1, rfl, x0'⟩ := str_cell HX.out hix
   obtain ⟨b2, o2, rfl, y0'⟩ := str_cell HY.out hiy
   have x0 := hM.out.cell x0' id
   have y0 := hM.out.cell y0' id
   have HB : Hid (belowL (x.drop i) (y.drop i) = if x[i] = y[i] then belowL (x.drop (i + 1)) (y.drop (i + 1)) else blt x[i] y[i]) := Hi (by
    rw [List.drop_eq_getElem_cons hix, List.drop_eq_getElem_cons hiy, belowL])
   generalize x[i] = s at *
   generalize y[i] = t at *
   clear x0' y0' hix hiy
   by_cases hst : s = t
   ·have he : (s.toList == t.toList) = true := by rw [baEq, decide_eq_true hst]
    have HST := Hi hst
    clear hst
    go_wp2_with fail
    refine wp_region_ord (fun w' => w'.cell? ⟨b1, o1 + i, none⟩ = some (.string s) ∧ w'.cell? ⟨b2, o2 + i, none⟩ = some (.string t)) [(0, 0), (0, 1), (0, 2), (1, 3), (0, 4), (0, 5), (0, 6), (1, 7), (0, 8)] (by kernel_rfl) (by kernel_rfl) ?_
    go_wp2_with (first
     |(refine ord_pure rfl rfl rfl (fun K hK => ?_); go_big_quiet_op; refine hK _ ?_; clear hK K)
     |(refine ord_held rfl rfl rfl (⟨x0, y0⟩) (fun K hK => ?_); apply Exists.intro; refine ⟨fun w' hs => ?_, hK _ ?_⟩; (revert hs; dsimp only; (try simp only [and_imp]); intros; go_simp; rfl); clear hK K)
     |(refine ord_nil ?_))
    go_roundw
    case rel => exact ⟨i + 1, by go_num, hlt, Hi (by rw [hE.out, HB.out, if_pos HST.out]), Hi hM.out.drew⟩
    case measure => simp [intOf]; omega
   ·have he : (s.toList == t.toList) = false := by rw [baEq, decide_eq_false hst]
    have HST := Hi hst
    clear hst
    go_wp2_with fail
    refine wp_region_ord (fun w' => w'.cell? ⟨b1, o1 + i, none⟩ = some (.string s) ∧ w'.cell? ⟨b2, o2 + i, none⟩ = some (.string t)) [(0, 0), (0, 1), (0, 2), (1, 3), (0, 4), (0, 5), (0, 6), (1, 7), (0, 8)] (by kernel_rfl) (by kernel_rfl) ?_
    go_wp2_with (first
     |(refine ord_pure rfl rfl rfl (fun K hK => ?_); go_big_quiet_op; refine hK _ ?_; clear hK K)
     |(refine ord_held rfl rfl rfl (⟨x0, y0⟩) (fun K hK => ?_); apply Exists.intro; refine ⟨fun w' hs => ?_, hK _ ?_⟩; (revert hs; dsimp only; (try simp only [and_imp]); intros; go_simp; rfl); clear hK K)
     |(refine ord_nil ?_))
    have m1 : Mod (fun _ => False) wr wr.drew := (Mod.refl _ wr).drew
    have x1 := m1.cell x0 id
    have y1 := m1.cell y0 id
    clear m1 x0 y0
    refine wp_region_ord (fun w' => w'.cell? ⟨b1, o1 + i, none⟩ = some (.string s) ∧ w'.cell? ⟨b2, o2 + i, none⟩ = some (.string t)) [(0, 0), (0, 1), (0, 2), (1, 3), (0, 4), (0, 5), (0, 6), (1, 7), (0, 8), (0, 9)] (by kernel_rfl) (by kernel_rfl) ?_
    go_wp2_with (first
     |(refine ord_pure rfl rfl rfl (fun K hK => ?_); go_big_quiet_op; refine hK _ ?_; clear hK K)
     |(refine ord_held rfl rfl rfl (⟨x1, y1⟩) (fun K hK => ?_); apply Exists.intro; refine ⟨fun w' hs => ?_, hK _ ?_⟩; (revert hs; dsimp only; (try simp only [and_imp]); intros; go_simp; rfl); clear hK K)
     |(refine ord_nil ?_))
    go_ret
    exact ⟨by rw [hE.out, HB.out, if_neg HST.out]; rfl, hM.out.drew.drew⟩
  ·obtain rfl : i = n := by omega
   have HF : Hid (belowL x y = false) := Hi (by
    rw [hE.out, List.drop_of_length_le (by rw [HNX.out]; exact Nat.le_refl _), List.drop_of_length_le (by rw [HNY.out]; exact Nat.le_refl _)]; rfl)
   clear hE
   go_wp2_with fail
   go_ret
   exact ⟨by rw [HF.out]; rfl, hM.out⟩
def Heads (w : World) (hs : List Value) (xs : List (List Value)) : Prop := hs.length = xs.length ∧ ∀ j (h : j < xs.length), ∃ x c, hs[j]? = some (.slice x xs[j].length c) ∧ Rd w x xs[j]
theorem Heads.nil (w : World) : Heads w [] [] := ⟨rfl, fun j h => by simp at h⟩
theorem Heads.mod0 {w w' : World} {hs : List Value} {xs : List (List Value)} (h : Heads w hs xs) (m : Mod (fun _ => False) w w') : Heads w' hs xs := ⟨h.1, fun j hj => by
 obtain ⟨x, c, h1, h2⟩ := h.2 j hj
 exact ⟨x, c, h1, h2.mod m fun _ _ => id⟩⟩
theorem Heads.llr {w : World} {hs : List Value} {xs : List (List Value)} {a : Option Addr} (h : Heads w hs xs) (hr : Rd w a hs) : LLR w a hs xs := ⟨h.1, hr, h.2⟩
theorem Heads.snoc {w : World} {hs : List Value} {xs : List (List Value)} {x : Option Addr} {c n : Nat} {ys : List Value} (h : Heads w hs xs) (hr : Rd w x ys) (hn : ys.length = n) : Heads w (hs ++ [.slice x n c]) (xs ++ [ys]) := by
 subst hn
 refine ⟨by simp [h.1], fun j hj => ?_⟩
 rw [List.length_append] at hj
 by_cases hl : j < xs.length
 ·obtain ⟨y, cy, h1, h2⟩ := h.2 j hl
  refine ⟨y, cy, ?_, ?_⟩
  ·rw [List.getElem?_append_left (by rw [h.1]; exact hl), h1, List.getElem_append_left hl]
  ·rw [List.getElem_append_left hl]; exact h2
 ·have hjx : j = xs.length := by simp at hj; omega
  subst hjx
  refine ⟨x, c, ?_, ?_⟩
  ·rw [List.getElem?_append_right (by rw [h.1]; exact Nat.le_refl _), h.1, Nat.sub_self, List.getElem_append_right (Nat.le_refl _)]
   simp
  ·rw [List.getElem_append_right (Nat.le_refl _)]
   simpa using hr
theorem LLR.take {w : World} {a : Option Addr} {hs : List Value} {xs : List (List Value)} (h : LLR w a hs xs) (m : Nat) : LLR w a (hs.take m) (xs.take m) :=
 ⟨by simp [h.len], h.rd.take m, fun j hj => by
  rw [List.length_take] at hj
  obtain ⟨x, c, h1, h2⟩ := h.row j (by omega)
  refine ⟨x, c, ?_, ?_⟩
  ·rw [List.getElem?_take_of_lt (by omega), h1, List.getElem_take]
  ·rw [List.getElem_take]; exact h2⟩
theorem LLR.drop {w : World} {a : Option Addr} {hs : List Value} {xs : List (List Value)} (h : LLR w a hs xs) {c : Nat} (hc : xs.length ≤ c) (m : Nat) : LLR w (subA a c m 1) (hs.drop m) (xs.drop m) :=
 ⟨by simp [h.len], by have h1 := subA_rd h.rd (c := c) (lo := m) (k := 1) (fun e => by rw [h.len]; omega); rwa [Nat.mul_one] at h1, fun j hj => by
  rw [List.length_drop] at hj
  obtain ⟨x, c, h1, h2⟩ := h.row (m + j) (by omega)
  refine ⟨x, c, ?_, ?_⟩
  ·rw [List.getElem?_drop, h1, List.getElem_drop]
  ·rw [List.getElem_drop]; exact h2⟩
end Go.Proofs.YtjoiaejbahdjkaaGreat
/-
  The document's merged and Rising: walked.
-/
namespace Go.Proofs.YtjoiaejbahdjkaaGreat
open Go Go.RowKit Go.Mine
set_option linter.unusedVariables false
set_option maxHeartbeats 8000000
set_option maxRecDepth 100000
theorem row_get {w : World} {a : Option Addr} {hs : List Value} {xs : List (List ByteArray)} {m : Nat} (h : LLR w a hs (xs.map sts)) (hk : ∀ r ∈ xs, r.length = m) {j : Nat} (hj : j < xs.length) : ∃ b o x c, a = some ⟨b, o, none⟩ ∧ w.cell? ⟨b, o + j, none⟩ = some (.slice x m c) ∧ Rd w x (sts xs[j]) := by
 obtain ⟨b, o, x, c, h1, h2, h3, _⟩ := h.get (j := j) (by simpa using hj)
 rw [List.getElem_map] at h2 h3
 rw [sts_length, hk _ (List.getElem_mem hj)] at h2
 exact ⟨b, o, x, c, h1, h2, h3⟩
theorem merged_any (a b : Option Addr) (ca cb : Nat) (ha hb : List Value) (xs ys : List (List ByteArray)) (m : Nat) (w : World) (hx : LLR w a ha (xs.map sts)) (hy : LLR w b hb (ys.map sts)) (hxm : ∀ r ∈ xs, r.length = m) (hym : ∀ r ∈ ys, r.length = m) (hm : m < 2 ^ 40) (hn : xs.length + ys.length ≤ 8388608) :
 Calls Tryz.prog 135 #[.slice a xs.length ca, .slice b ys.length cb] w fun e w' => (∃ oa oc hs, e = .returned (.slice oa (mergeG belowL xs ys).length oc) ∧ LLR w' oa hs ((mergeG belowL xs ys).map sts)) ∧ Mod (fun _ => False) w w' := by
 have HX := Hi hx; have HY := Hi hy; have HXM := Hi hxm; have HYM := Hi hym
 clear hx hy hxm hym
 obtain ⟨nx, hnx⟩ : ∃ nx, nx = xs.length := ⟨_, rfl⟩
 obtain ⟨ny, hny⟩ : ∃ ny, ny = ys.length := ⟨_, rfl⟩
 rw [← hnx, ← hny] at hn ⊢
 have HNX := Hi hnx; have HNY := Hi hny
 clear hnx hny
 go_enter Tryz.func135, Tryz.ntmps135
 go_wp2_with fail
 go_loopw [5, 6, 7] (fun ov iv kv wr => ∃ (i k : Nat) (out : List (List ByteArray)) (oa : Option Addr) (oc : Nat) (hs : List Value), ov = .slice oa out.length oc ∧ iv = .int .i64 i ∧ kv = .int .i64 k ∧ i ≤ nx ∧ k ≤ ny ∧ Hid (mergeG belowL xs ys = out ++ mergeG belowL (xs.drop i) (ys.drop k)) ∧
  Hid (Mine.Own wr 81 1 oa out.length oc hs) ∧ Hid (Heads w hs (out.map sts)) ∧ Hid (Mod (fun _ => False) w wr) ∧ Hid (∀ b, blk oa = some b → w.heap.size ≤ b)) (fun _ iv kv _ => nx + ny - (intOf iv).toNat - (intOf kv).toNat)
 case atStart => exact ⟨0, 0, [], none, 0, [], rfl, rfl, rfl, Nat.zero_le _, Nat.zero_le _, Hi rfl, Hi (Mine.Own.nil _ _ _), Hi (Heads.nil _), Hi (Mod.refl _ _), Hi (fun b hb => by simp at hb)⟩
 case round =>
  obtain ⟨i, k, out, oa, oc, hs, rfl, rfl, rfl, hi, hk, hE, hO, hH, hM, hF⟩ := hrel
  have hout : out.length ≤ 8388608 := by
   have h1 := congrArg List.length hE.out
   have h2 := merge_len belowL _ xs ys (Nat.le_refl _)
   have h3 := HNX.out; have h4 := HNY.out
   rw [List.length_append] at h1
   omega
  by_cases hlx : i < nx
  ·have hix : i < xs.length := by have := HNX.out; omega
   obtain ⟨b1, o1, x, xc, rfl, x0', hxr⟩ := row_get HX.out HXM.out hix
   have x0 := hM.out.cell x0' id
   have HXR := Hi hxr
   have hlenx : (xs[i]).length = m := HXM.out _ (List.getElem_mem hix)
   have HLX := Hi hlenx
   have hdx : xs.drop i = xs[i] :: xs.drop (i + 1) := List.drop_eq_getElem_cons hix
   obtain ⟨rx, hrx⟩ : ∃ rx, rx = xs[i] := ⟨_, rfl⟩
   rw [← hrx] at hdx HXR HLX
   have HDX := Hi hdx
   clear hrx hdx hxr x0' hlenx hix
   by_cases hly : k < ny
   ·have hiy : k < ys.length := by have := HNY.out; omega
    obtain ⟨b2, o2, y, yc, rfl, y0', hyr⟩ := row_get HY.out HYM.out hiy
    have y0 := hM.out.cell y0' id
    have HYR := Hi hyr
    have hleny : (ys[k]).length = m := HYM.out _ (List.getElem_mem hiy)
    have HLY := Hi hleny
    have hdy : ys.drop k = ys[k] :: ys.drop (k + 1) := List.drop_eq_getElem_cons hiy
    obtain ⟨ry, hry⟩ : ∃ ry, ry = ys[k] := ⟨_, rfl⟩
    rw [← hry] at hdy HYR HLY
    have HDY := Hi hdy
    clear hry hdy hyr y0' hleny hiy
    have HMM : Hid (mergeG belowL (xs.drop i) (ys.drop k) = if belowL rx ry then rx :: mergeG belowL (xs.drop (i + 1)) (ys.drop k) else if belowL ry rx then ry :: mergeG belowL (xs.drop i) (ys.drop (k + 1)) else rx :: mergeG belowL (xs.drop (i + 1)) (ys.drop (k + 1))) := Hi (by
     rw [HDX.out, HDY.out, mergeG])
    have HB1 : Hid (∀ W, Mod (fun _ => False) w W → Calls Tryz.prog 156 #[.slice x m xc, .slice y m yc] W fun e w' => e = .returned (.bool (belowL rx ry)) ∧ Mod (fun _ => False) W w') := Hi (fun W mW => below_any x y xc yc rx ry m W (HXR.out.mod mW fun _ _ => id) (HYR.out.mod mW fun _ _ => id) HLX.out HLY.out hm)
    have HB2 : Hid (∀ W, Mod (fun _ => False) w W → Calls Tryz.prog 156 #[.slice y m yc, .slice x m xc] W fun e w' => e = .returned (.bool (belowL ry rx)) ∧ Mod (fun _ => False) W w') := Hi (fun W mW => below_any y x yc xc ry rx m W (HYR.out.mod mW fun _ _ => id) (HXR.out.mod mW fun _ _ => id) HLY.out HLX.out hm)
    have hne1 : (((k : Nat) : Int) == (ny : Int)) = false := by simp; omega
    have hne2 : (((i : Nat) : Int) == (nx : Int)) = false := by simp; omega
    cases hxy : belowL rx ry with
    | true =>
      rw [hxy] at HB1 HMM
      have HMG : Hid (mergeG belowL (xs.drop i) (ys.drop k) = rx :: mergeG belowL (xs.drop (i + 1)) (ys.drop k)) := Hi (by rw [HMM.out, if_pos rfl])
      clear HMM HB2 hxy
      go_wp2_with fail
      refine wp_region_ord (fun w' => w'.cell? ⟨b1, o1 + i, none⟩ = some (.slice x m xc) ∧ w'.cell? ⟨b2, o2 + k, none⟩ = some (.slice y m yc)) [(0, 0), (0, 1), (0, 2), (0, 3), (0, 4), (0, 5), (0, 6), (0, 7), (0, 8), (0, 9), (0, 10), (0, 11), (0, 12), (1, 13), (0, 14), (0, 15), (0, 16), (1, 17), (3, 18), (0, 19), (0, 20)] (by kernel_rfl) (by kernel_rfl) ?_
      go_wp2_with (first
       |(refine ord_pure rfl rfl rfl (fun K hK => ?_); go_big_quiet_op; refine hK _ ?_; clear hK K)
       |(refine ord_skip rfl rfl ?_; simp only [Act.put, List.setIfInBounds_toArray, List.set_cons_zero, List.set_cons_succ])
       |(refine ord_held rfl rfl rfl (⟨x0, y0⟩) (fun K hK => ?_); apply Exists.intro; refine ⟨fun w' hs => ?_, hK _ ?_⟩; (revert hs; dsimp only; (try simp only [and_imp]); intros; go_simp; rfl); clear hK K)
       |(refine ord_drop rfl rfl (fun K hK => ?_))
       |(refine ord_nil ?_))
      refine (HB1.out _ (hM.out.drew)).mono ?_
      rintro e w3 ⟨rfl, hm3⟩
      have hm5 := Hi (hM.out.drew.step hm3 fun _ _ e => e)
      have m3 : Mod (fun _ => False) wr w3 := ((Mod.refl _ wr).drew).step hm3 fun _ _ e => e
      have x1 := m3.cell x0 id
      have HO5 := Hi (hO.out.mod m3 fun _ _ => id)
      clear hm3 m3 x0 y0 hO hM
      go_wp2_with (first
       |(refine ord_pure rfl rfl rfl (fun K hK => ?_); go_big_quiet_op; refine hK _ ?_; clear hK K)
       |(refine ord_skip rfl rfl ?_; simp only [Act.put, List.setIfInBounds_toArray, List.set_cons_zero, List.set_cons_succ])
       |(refine ord_held rfl rfl rfl (trivial) (fun K hK => ?_); apply Exists.intro; refine ⟨fun w' hs => ?_, hK _ ?_⟩; (revert hs; dsimp only; (try simp only [and_imp]); intros; go_simp; rfl); clear hK K)
       |(refine ord_drop rfl rfl (fun K hK => ?_))
       |(refine ord_nil ?_)
       |(at_builtin; refine wpL_appendN (us := [.slice x m xc]) rfl (.tmp 39) (.tmp 44) 84 rfl tiLLS rfl HO5.out rfl rfl rfl (by show (out.length + 1) * 24 ≤ _; omega) (by show out.length + 1 ≤ _; unfold maxLen; omega) ?_; intro a5 c5 w5 hO5 hG5 _
         have HM5 := Hi (hm5.out.step hG5.mod (fun b hb e => by have h1 := hF.out b e; omega))
         have HO6 := Hi hO5
         have HF6 : Hid (∀ b, blk a5 = some b → w.heap.size ≤ b) := Hi (fun b hb => by
          rcases hG5.pos with e | ⟨g, e, hg⟩
          ·rw [e] at hb; exact hF.out b hb
          ·rw [e] at hb; cases hb; have h1 := hm5.out.size; omega)
         clear hO5 hG5))
      go_roundw
      case rel => exact ⟨i + 1, k, out ++ [rx], a5, c5, hs ++ [.slice x m xc], by simp, by go_num, by go_num, by omega, by omega, Hi (by rw [hE.out, HMG.out, List.append_assoc]; rfl), Hi (by rw [List.length_append]; exact HO6.out), Hi (by rw [List.map_append]; exact hH.out.snoc HXR.out (by rw [sts_length]; exact HLX.out)), HM5, HF6⟩
      case measure => simp [intOf]; omega
    | false =>
      rw [hxy] at HB1 HMM
      rw [if_neg (by simp)] at HMM
      clear hxy
      go_wp2_with fail
      refine wp_region_ord (fun w' => w'.cell? ⟨b1, o1 + i, none⟩ = some (.slice x m xc) ∧ w'.cell? ⟨b2, o2 + k, none⟩ = some (.slice y m yc)) [(0, 0), (0, 1), (0, 2), (0, 3), (0, 4), (0, 5), (0, 6), (0, 7), (0, 8), (0, 9), (0, 10), (0, 11), (0, 12), (1, 13), (0, 14), (0, 15), (0, 16), (1, 17), (3, 18), (0, 19), (0, 20)] (by kernel_rfl) (by kernel_rfl) ?_
      go_wp2_with (first
       |(refine ord_pure rfl rfl rfl (fun K hK => ?_); go_big_quiet_op; refine hK _ ?_; clear hK K)
       |(refine ord_skip rfl rfl ?_; simp only [Act.put, List.setIfInBounds_toArray, List.set_cons_zero, List.set_cons_succ])
       |(refine ord_held rfl rfl rfl (⟨x0, y0⟩) (fun K hK => ?_); apply Exists.intro; refine ⟨fun w' hs => ?_, hK _ ?_⟩; (revert hs; dsimp only; (try simp only [and_imp]); intros; go_simp; rfl); clear hK K)
       |(refine ord_drop rfl rfl (fun K hK => ?_))
       |(refine ord_nil ?_))
      refine (HB1.out _ (hM.out.drew)).mono ?_
      rintro e w3 ⟨rfl, hm3⟩
      have hm4 := Hi (hM.out.drew.step hm3 fun _ _ e => e)
      have m3 : Mod (fun _ => False) wr w3 := ((Mod.refl _ wr).drew).step hm3 fun _ _ e => e
      have x1 := m3.cell x0 id
      have y1 := m3.cell y0 id
      have HO4 := Hi (hO.out.mod m3 fun _ _ => id)
      clear hm3 m3 x0 y0 hO hM HB1
      go_wp2_with (first
       |(refine ord_pure rfl rfl rfl (fun K hK => ?_); go_big_quiet_op; refine hK _ ?_; clear hK K)
       |(refine ord_skip rfl rfl ?_; simp only [Act.put, List.setIfInBounds_toArray, List.set_cons_zero, List.set_cons_succ])
       |(refine ord_held rfl rfl rfl (trivial) (fun K hK => ?_); apply Exists.intro; refine ⟨fun w' hs => ?_, hK _ ?_⟩; (revert hs; dsimp only; (try simp only [and_imp]); intros; go_simp; rfl); clear hK K)
       |(refine ord_drop rfl rfl (fun K hK => ?_))
       |(refine ord_nil ?_))
      cases hyx : belowL ry rx with
      | true =>
        rw [hyx] at HB2 HMM
        have HMG : Hid (mergeG belowL (xs.drop i) (ys.drop k) = ry :: mergeG belowL (xs.drop i) (ys.drop (k + 1))) := Hi (by rw [HMM.out, if_pos rfl])
        clear HMM hyx
        refine wp_region_ord (fun w' => w'.cell? ⟨b1, o1 + i, none⟩ = some (.slice x m xc) ∧ w'.cell? ⟨b2, o2 + k, none⟩ = some (.slice y m yc)) [(0, 0), (0, 1), (0, 2), (0, 3), (0, 4), (0, 5), (0, 6), (0, 7), (1, 8), (0, 9), (0, 10), (0, 11), (1, 12), (3, 13), (0, 14)] (by kernel_rfl) (by kernel_rfl) ?_
        go_wp2_with (first
         |(refine ord_pure rfl rfl rfl (fun K hK => ?_); go_big_quiet_op; refine hK _ ?_; clear hK K)
         |(refine ord_skip rfl rfl ?_; simp only [Act.put, List.setIfInBounds_toArray, List.set_cons_zero, List.set_cons_succ])
         |(refine ord_held rfl rfl rfl (⟨x1, y1⟩) (fun K hK => ?_); apply Exists.intro; refine ⟨fun w' hs => ?_, hK _ ?_⟩; (revert hs; dsimp only; (try simp only [and_imp]); intros; go_simp; rfl); clear hK K)
         |(refine ord_drop rfl rfl (fun K hK => ?_))
         |(refine ord_nil ?_))
        refine (HB2.out _ (hm4.out.drew)).mono ?_
        rintro e w4 ⟨rfl, hm3⟩
        have hm5 := Hi (hm4.out.drew.step hm3 fun _ _ e => e)
        have m3 : Mod (fun _ => False) w3 w4 := ((Mod.refl _ w3).drew).step hm3 fun _ _ e => e
        have y2 := m3.cell y1 id
        have HO5 := Hi (HO4.out.mod m3 fun _ _ => id)
        clear hm3 m3 x1 y1 HO4 hm4 HB2
        go_wp2_with (first
         |(refine ord_pure rfl rfl rfl (fun K hK => ?_); go_big_quiet_op; refine hK _ ?_; clear hK K)
         |(refine ord_skip rfl rfl ?_; simp only [Act.put, List.setIfInBounds_toArray, List.set_cons_zero, List.set_cons_succ])
         |(refine ord_held rfl rfl rfl (trivial) (fun K hK => ?_); apply Exists.intro; refine ⟨fun w' hs => ?_, hK _ ?_⟩; (revert hs; dsimp only; (try simp only [and_imp]); intros; go_simp; rfl); clear hK K)
         |(refine ord_drop rfl rfl (fun K hK => ?_))
         |(refine ord_nil ?_)
         |(at_builtin; refine wpL_appendN (us := [.slice y m yc]) rfl (.tmp 63) (.tmp 68) 84 rfl tiLLS rfl HO5.out rfl rfl rfl (by show (out.length + 1) * 24 ≤ _; omega) (by show out.length + 1 ≤ _; unfold maxLen; omega) ?_; intro a5 c5 w5 hO5 hG5 _
           have HM5 := Hi (hm5.out.step hG5.mod (fun b hb e => by have h1 := hF.out b e; omega))
           have HO6 := Hi hO5
           have HF6 : Hid (∀ b, blk a5 = some b → w.heap.size ≤ b) := Hi (fun b hb => by
            rcases hG5.pos with e | ⟨g, e, hg⟩
            ·rw [e] at hb; exact hF.out b hb
            ·rw [e] at hb; cases hb; have h1 := hm5.out.size; omega)
           clear hO5 hG5))
        go_roundw
        case rel => exact ⟨i, k + 1, out ++ [ry], a5, c5, hs ++ [.slice y m yc], by simp, by go_num, by go_num, by omega, by omega, Hi (by rw [hE.out, HMG.out, List.append_assoc]; rfl), Hi (by rw [List.length_append]; exact HO6.out), Hi (by rw [List.map_append]; exact hH.out.snoc HYR.out (by rw [sts_length]; exact HLY.out)), HM5, HF6⟩
        case measure => simp [intOf]; omega
      | false =>
        rw [hyx] at HB2 HMM
        have HMG : Hid (mergeG belowL (xs.drop i) (ys.drop k) = rx :: mergeG belowL (xs.drop (i + 1)) (ys.drop (k + 1))) := Hi (by rw [HMM.out, if_neg (by simp)])
        clear HMM hyx
        refine wp_region_ord (fun w' => w'.cell? ⟨b1, o1 + i, none⟩ = some (.slice x m xc) ∧ w'.cell? ⟨b2, o2 + k, none⟩ = some (.slice y m yc)) [(0, 0), (0, 1), (0, 2), (0, 3), (0, 4), (0, 5), (0, 6), (0, 7), (1, 8), (0, 9), (0, 10), (0, 11), (1, 12), (3, 13), (0, 14)] (by kernel_rfl) (by kernel_rfl) ?_
        go_wp2_with (first
         |(refine ord_pure rfl rfl rfl (fun K hK => ?_); go_big_quiet_op; refine hK _ ?_; clear hK K)
         |(refine ord_skip rfl rfl ?_; simp only [Act.put, List.setIfInBounds_toArray, List.set_cons_zero, List.set_cons_succ])
         |(refine ord_held rfl rfl rfl (⟨x1, y1⟩) (fun K hK => ?_); apply Exists.intro; refine ⟨fun w' hs => ?_, hK _ ?_⟩; (revert hs; dsimp only; (try simp only [and_imp]); intros; go_simp; rfl); clear hK K)
         |(refine ord_drop rfl rfl (fun K hK => ?_))
         |(refine ord_nil ?_))
        refine (HB2.out _ (hm4.out.drew)).mono ?_
        rintro e w4 ⟨rfl, hm3⟩
        have hm5 := Hi (hm4.out.drew.step hm3 fun _ _ e => e)
        have m3 : Mod (fun _ => False) w3 w4 := ((Mod.refl _ w3).drew).step hm3 fun _ _ e => e
        have x2 := m3.cell x1 id
        have HO5 := Hi (HO4.out.mod m3 fun _ _ => id)
        clear hm3 m3 x1 y1 HO4 hm4 HB2
        go_wp2_with (first
         |(refine ord_pure rfl rfl rfl (fun K hK => ?_); go_big_quiet_op; refine hK _ ?_; clear hK K)
         |(refine ord_skip rfl rfl ?_; simp only [Act.put, List.setIfInBounds_toArray, List.set_cons_zero, List.set_cons_succ])
         |(refine ord_held rfl rfl rfl (trivial) (fun K hK => ?_); apply Exists.intro; refine ⟨fun w' hs => ?_, hK _ ?_⟩; (revert hs; dsimp only; (try simp only [and_imp]); intros; go_simp; rfl); clear hK K)
         |(refine ord_drop rfl rfl (fun K hK => ?_))
         |(refine ord_nil ?_)
         |(at_builtin; refine wpL_appendN (us := [.slice x m xc]) rfl (.tmp 72) (.tmp 77) 84 rfl tiLLS rfl HO5.out rfl rfl rfl (by show (out.length + 1) * 24 ≤ _; omega) (by show out.length + 1 ≤ _; unfold maxLen; omega) ?_; intro a5 c5 w5 hO5 hG5 _
           have HM5 := Hi (hm5.out.step hG5.mod (fun b hb e => by have h1 := hF.out b e; omega))
           have HO6 := Hi hO5
           have HF6 : Hid (∀ b, blk a5 = some b → w.heap.size ≤ b) := Hi (fun b hb => by
            rcases hG5.pos with e | ⟨g, e, hg⟩
            ·rw [e] at hb; exact hF.out b hb
            ·rw [e] at hb; cases hb; have h1 := hm5.out.size; omega)
           clear hO5 hG5))
        go_roundw
        case rel => exact ⟨i + 1, k + 1, out ++ [rx], a5, c5, hs ++ [.slice x m xc], by simp, by go_num, by go_num, by omega, by omega, Hi (by rw [hE.out, HMG.out, List.append_assoc]; rfl), Hi (by rw [List.length_append]; exact HO6.out), Hi (by rw [List.map_append]; exact hH.out.snoc HXR.out (by rw [sts_length]; exact HLX.out)), HM5, HF6⟩
        case measure => simp [intOf]; omega
   ·obtain rfl : k = ny := by omega
    have e1 : ys.drop k = [] := List.drop_of_length_le (by have := HNY.out; omega)
    have HMG : Hid (mergeG belowL (xs.drop i) (ys.drop k) = rx :: mergeG belowL (xs.drop (i + 1)) (ys.drop k)) := Hi (by
     rw [HDX.out, e1, merge_nilr, merge_nilr])
    clear e1
    go_wp2_with fail
    refine wp_region_ord (fun w' => True) [(0, 0), (0, 1), (0, 2), (0, 3), (0, 4), (0, 5), (0, 6), (0, 7), (0, 8), (0, 9), (0, 10), (0, 11), (0, 12), (1, 13), (0, 14), (0, 15), (0, 16), (1, 17), (3, 18), (0, 19), (0, 20)] (by kernel_rfl) (by kernel_rfl) ?_
    have hm5 := Hi hM.out.drew
    have HO5 := Hi (hO.out.mod ((Mod.refl (fun _ => False) wr).drew) fun _ _ => id)
    have x1 := ((Mod.refl (fun _ => False) wr).drew).cell x0 id
    clear hO hM x0
    generalize wr.drew = w3 at *
    go_wp2_with (first
     |(refine ord_pure rfl rfl rfl (fun K hK => ?_); go_big_quiet_op; refine hK _ ?_; clear hK K)
     |(refine ord_skip rfl rfl ?_; simp only [Act.put, List.setIfInBounds_toArray, List.set_cons_zero, List.set_cons_succ])
     |(refine ord_held rfl rfl rfl (trivial) (fun K hK => ?_); apply Exists.intro; refine ⟨fun w' hs => ?_, hK _ ?_⟩; (revert hs; dsimp only; (try simp only [and_imp]); intros; go_simp; rfl); clear hK K)
     |(refine ord_drop rfl rfl (fun K hK => ?_))
     |(refine ord_nil ?_)
     |(at_builtin; refine wpL_appendN (us := [.slice x m xc]) rfl (.tmp 39) (.tmp 44) 84 rfl tiLLS rfl HO5.out rfl rfl rfl (by show (out.length + 1) * 24 ≤ _; omega) (by show out.length + 1 ≤ _; unfold maxLen; omega) ?_; intro a5 c5 w5 hO5 hG5 _
       have HM5 := Hi (hm5.out.step hG5.mod (fun b hb e => by have h1 := hF.out b e; omega))
       have HO6 := Hi hO5
       have HF6 : Hid (∀ b, blk a5 = some b → w.heap.size ≤ b) := Hi (fun b hb => by
        rcases hG5.pos with e | ⟨g, e, hg⟩
        ·rw [e] at hb; exact hF.out b hb
        ·rw [e] at hb; cases hb; have h1 := hm5.out.size; omega)
       clear hO5 hG5))
    go_roundw
    case rel => exact ⟨i + 1, k, out ++ [rx], a5, c5, hs ++ [.slice x m xc], by simp, by go_num, by go_num, by omega, by omega, Hi (by rw [hE.out, HMG.out, List.append_assoc]; rfl), Hi (by rw [List.length_append]; exact HO6.out), Hi (by rw [List.map_append]; exact hH.out.snoc HXR.out (by rw [sts_length]; exact HLX.out)), HM5, HF6⟩
    case measure => simp [intOf]; omega
  ·obtain rfl : i = nx := by omega
   by_cases hly : k < ny
   ·have hiy : k < ys.length := by have := HNY.out; omega
    obtain ⟨b2, o2, y, yc, rfl, y0', hyr⟩ := row_get HY.out HYM.out hiy
    have y0 := hM.out.cell y0' id
    have HYR := Hi hyr
    have hleny : (ys[k]).length = m := HYM.out _ (List.getElem_mem hiy)
    have HLY := Hi hleny
    have hdy : ys.drop k = ys[k] :: ys.drop (k + 1) := List.drop_eq_getElem_cons hiy
    obtain ⟨ry, hry⟩ : ∃ ry, ry = ys[k] := ⟨_, rfl⟩
    rw [← hry] at hdy HYR HLY
    have HDY := Hi hdy
    clear hry hdy hyr y0' hleny hiy
    have e1 : xs.drop i = [] := List.drop_of_length_le (by have := HNX.out; omega)
    have HMG : Hid (mergeG belowL (xs.drop i) (ys.drop k) = ry :: mergeG belowL (xs.drop i) (ys.drop (k + 1))) := Hi (by
     rw [e1, mergeG, mergeG, HDY.out])
    clear e1
    have hne1 : (((k : Nat) : Int) == (ny : Int)) = false := by simp; omega
    go_wp2_with fail
    refine wp_region_ord (fun w' => True) [(0, 0), (0, 1), (0, 2), (0, 3), (0, 4), (0, 5), (0, 6), (0, 7), (0, 8), (0, 9), (0, 10), (0, 11), (0, 12), (1, 13), (0, 14), (0, 15), (0, 16), (1, 17), (3, 18), (0, 19), (0, 20)] (by kernel_rfl) (by kernel_rfl) ?_
    have m3 := Hi ((Mod.refl (fun _ => False) wr).drew)
    have hm4 := Hi hM.out.drew
    have y1 := m3.out.cell y0 id
    have HO4 := Hi (hO.out.mod m3.out fun _ _ => id)
    clear hO hM y0 m3
    generalize wr.drew = w3 at *
    go_wp2_with (first
     |(refine ord_pure rfl rfl rfl (fun K hK => ?_); go_big_quiet_op; refine hK _ ?_; clear hK K)
     |(refine ord_skip rfl rfl ?_; simp only [Act.put, List.setIfInBounds_toArray, List.set_cons_zero, List.set_cons_succ])
     |(refine ord_held rfl rfl rfl (trivial) (fun K hK => ?_); apply Exists.intro; refine ⟨fun w' hs => ?_, hK _ ?_⟩; (revert hs; dsimp only; (try simp only [and_imp]); intros; go_simp; rfl); clear hK K)
     |(refine ord_drop rfl rfl (fun K hK => ?_))
     |(refine ord_nil ?_))
    refine wp_region_ord (fun w' => True) [(0, 0), (0, 1), (0, 2), (0, 3), (0, 4), (0, 5), (0, 6), (0, 7), (1, 8), (0, 9), (0, 10), (0, 11), (1, 12), (3, 13), (0, 14)] (by kernel_rfl) (by kernel_rfl) ?_
    have hm5 := Hi hm4.out.drew
    have y2 := ((Mod.refl (fun _ => False) w3).drew).cell y1 id
    have HO5 := Hi (HO4.out.mod ((Mod.refl (fun _ => False) w3).drew) fun _ _ => id)
    clear HO4 hm4 y1
    generalize w3.drew = w4 at *
    go_wp2_with (first
     |(refine ord_pure rfl rfl rfl (fun K hK => ?_); go_big_quiet_op; refine hK _ ?_; clear hK K)
     |(refine ord_skip rfl rfl ?_; simp only [Act.put, List.setIfInBounds_toArray, List.set_cons_zero, List.set_cons_succ])
     |(refine ord_held rfl rfl rfl (trivial) (fun K hK => ?_); apply Exists.intro; refine ⟨fun w' hs => ?_, hK _ ?_⟩; (revert hs; dsimp only; (try simp only [and_imp]); intros; go_simp; rfl); clear hK K)
     |(refine ord_drop rfl rfl (fun K hK => ?_))
     |(refine ord_nil ?_)
     |(at_builtin; refine wpL_appendN (us := [.slice y m yc]) rfl (.tmp 63) (.tmp 68) 84 rfl tiLLS rfl HO5.out rfl rfl rfl (by show (out.length + 1) * 24 ≤ _; omega) (by show out.length + 1 ≤ _; unfold maxLen; omega) ?_; intro a5 c5 w5 hO5 hG5 _
       have HM5 := Hi (hm5.out.step hG5.mod (fun b hb e => by have h1 := hF.out b e; omega))
       have HO6 := Hi hO5
       have HF6 : Hid (∀ b, blk a5 = some b → w.heap.size ≤ b) := Hi (fun b hb => by
        rcases hG5.pos with e | ⟨g, e, hg⟩
        ·rw [e] at hb; exact hF.out b hb
        ·rw [e] at hb; cases hb; have h1 := hm5.out.size; omega)
       clear hO5 hG5))
    go_roundw
    case rel => exact ⟨i, k + 1, out ++ [ry], a5, c5, hs ++ [.slice y m yc], by simp, by go_num, by go_num, by omega, by omega, Hi (by rw [hE.out, HMG.out, List.append_assoc]; rfl), Hi (by rw [List.length_append]; exact HO6.out), Hi (by rw [List.map_append]; exact hH.out.snoc HYR.out (by rw [sts_length]; exact HLY.out)), HM5, HF6⟩
    case measure => simp [intOf]; omega
   ·obtain rfl : k = ny := by omega
    have e1 : xs.drop i = [] := List.drop_of_length_le (by have := HNX.out; omega)
    have HEE : Hid (mergeG belowL xs ys = out) := Hi (by
     rw [hE.out, e1, List.drop_of_length_le (i := k) (l := ys) (by have := HNY.out; omega), mergeG, List.append_nil])
    clear e1
    clear hE
    go_wp2_with fail
    go_ret
    rw [HEE.out]
    exact ⟨⟨oa, oc, hs, rfl, (hH.out.mod0 hM.out).llr hO.out.rd⟩, hM.out⟩
end Go.Proofs.YtjoiaejbahdjkaaGreat
