/-
  The plain law of tidy programs: rules beside their texts, in the texts' order.
-/
import Derived.Test.YtphgglnkdfndiaaDoorNorm
import Derived.Test.YtphgglnkdfndiaaDoorMayL
namespace Go.Proofs.YtphgglnkdfndiaaDoor
open Go Go.RowKit Go.Mine
set_option linter.unusedVariables false

/-- a text beside its rule -/
abbrev Wn := ByteArray × Rm
def tb (x : ByteArray) : List UInt8 := x.data.toList
theorem tb_inj {x y : ByteArray} (h : tb x = tb y) : x = y := by
  cases x; cases y
  exact congrArg _ (Array.ext' h)
/-- where a text stands, or would stand -/
def lbT : List Wn → ByteArray → Nat
  | [], _ => 0
  | y :: ys, s => if tb y.1 < tb s then lbT ys s + 1 else 0
def hasT (xs : List Wn) (s : ByteArray) : Bool := decide ((xs[lbT xs s]?).map (·.1) = some s)
def insT (xs : List Wn) (x : Wn) : List Wn := if hasT xs x.1 = true then xs else xs.take (lbT xs x.1) ++ x :: xs.drop (lbT xs x.1)
def SortT (xs : List Wn) : Prop := xs.Pairwise fun x y => tb x.1 < tb y.1
theorem lbT_le (s : ByteArray) : ∀ xs : List Wn, lbT xs s ≤ xs.length
  | [] => Nat.le_refl _
  | y :: ys => by
    rw [lbT]
    split
    · have := lbT_le s ys; simp only [List.length_cons]; omega
    · exact Nat.zero_le _
theorem lbT_lt (s : ByteArray) : ∀ (xs : List Wn) (i : Nat) (hi : i < xs.length), i < lbT xs s → tb xs[i].1 < tb s
  | [], i, hi, _ => by simp at hi
  | y :: ys, i, hi, h => by
    rw [lbT] at h
    split at h
    · rename_i hy
      cases i with
      | zero => exact hy
      | succ i => exact lbT_lt s ys i (by simpa using hi) (by omega)
    · omega
theorem lbT_stop (s : ByteArray) : ∀ (xs : List Wn) (h : lbT xs s < xs.length), ¬ tb xs[lbT xs s].1 < tb s
  | [], h => by simp at h
  | y :: ys, h => by
    by_cases hy : tb y.1 < tb s
    · have e : lbT (y :: ys) s = lbT ys s + 1 := by rw [lbT, if_pos hy]
      have h2 : lbT ys s < ys.length := by rw [e] at h; simpa using h
      have := lbT_stop s ys h2
      simp only [e, List.getElem_cons_succ]
      exact this
    · have e : lbT (y :: ys) s = 0 := by rw [lbT, if_neg hy]
      simp only [e, List.getElem_cons_zero]
      exact hy
theorem sortT_get {xs : List Wn} (h : SortT xs) {i j : Nat} (hi : i < xs.length) (hj : j < xs.length) (hij : i < j) : tb xs[i].1 < tb xs[j].1 := (List.pairwise_iff_getElem.1 h) i j hi hj hij
theorem lbT_ge {xs : List Wn} {s : ByteArray} (h : SortT xs) (i : Nat) (hi : i < xs.length) (hge : lbT xs s ≤ i) : ¬ tb xs[i].1 < tb s := fun hlt => by
  have h1 := lbT_stop s xs (by omega)
  rcases Nat.eq_or_lt_of_le hge with e | e
  · subst e; exact h1 hlt
  · exact h1 (List.lt_trans (sortT_get h (by omega) hi e) hlt)
theorem lbT_uniq {xs : List Wn} {s : ByteArray} (h : SortT xs) {k : Nat} (hk : k ≤ xs.length) (h1 : ∀ i (hi : i < xs.length), i < k → tb xs[i].1 < tb s) (h2 : ∀ i (hi : i < xs.length), k ≤ i → ¬ tb xs[i].1 < tb s) : k = lbT xs s := by
  have hl := lbT_le s xs
  rcases Nat.lt_trichotomy k (lbT xs s) with e | e | e
  · exact absurd (lbT_lt s xs k (by omega) e) (h2 k (by omega) (Nat.le_refl _))
  · exact e
  · exact absurd (h1 (lbT xs s) (by omega) e) (lbT_stop s xs (by omega))
theorem hasT_iff {xs : List Wn} {s : ByteArray} (h : lbT xs s < xs.length) : hasT xs s = decide (xs[lbT xs s].1 = s) := by
  unfold hasT
  rw [List.getElem?_eq_getElem h]
  simp
theorem hasT_out {xs : List Wn} {s : ByteArray} (h : ¬ lbT xs s < xs.length) : hasT xs s = false := by
  unfold hasT
  rw [List.getElem?_eq_none (by omega)]
  simp
theorem insT_len (xs : List Wn) (x : Wn) : (insT xs x).length ≤ xs.length + 1 := by
  unfold insT
  split
  · omega
  · rw [List.length_append, List.length_cons, List.length_take, List.length_drop]; omega
theorem insT_sort {xs : List Wn} (h : SortT xs) (x : Wn) : SortT (insT xs x) := by
  unfold insT
  split
  · exact h
  · rename_i hn
    have hl := lbT_le x.1 xs
    unfold SortT
    rw [List.pairwise_append]
    refine ⟨h.sublist (List.take_sublist _ _), ?_, ?_⟩
    · rw [List.pairwise_cons]
      refine ⟨fun y hy => ?_, h.sublist (List.drop_sublist _ _)⟩
      obtain ⟨j, hj, rfl⟩ := List.mem_iff_getElem.1 hy
      rw [List.length_drop] at hj
      rw [List.getElem_drop]
      have hb : lbT xs x.1 + j < xs.length := by omega
      have hge := lbT_ge (s := x.1) h (lbT xs x.1 + j) hb (Nat.le_add_right _ _)
      have hle : tb x.1 ≤ tb xs[lbT xs x.1 + j].1 := List.not_lt.1 hge
      rcases List.le_iff_lt_or_eq.1 hle with e | e
      · exact e
      · exfalso
        have e' := tb_inj e
        by_cases hj0 : j = 0
        · subst hj0
          apply hn
          rw [hasT_iff (by omega)]
          simpa using e'.symm
        · have h1 := sortT_get h (i := lbT xs x.1) (j := lbT xs x.1 + j) (by omega) (by omega) (by omega)
          rw [← e] at h1
          exact lbT_stop x.1 xs (by omega) h1
    · intro y hy z hz
      obtain ⟨i, hi, rfl⟩ := List.mem_iff_getElem.1 hy
      rw [List.length_take] at hi
      rw [List.getElem_take]
      have hlt := lbT_lt x.1 xs i (by omega) (by omega)
      rcases List.mem_cons.1 hz with rfl | hz
      · exact hlt
      · obtain ⟨j, hj, rfl⟩ := List.mem_iff_getElem.1 hz
        rw [List.length_drop] at hj
        rw [List.getElem_drop]
        exact sortT_get h (by omega) (by omega) (by omega)
/-- a rule's normal form beside its text -/
def txW (r : Rm) : Wn := (⟨(rmT (nmRm r)).toArray⟩, nmRm r)
def tidyGo : List Wn → List Rm → Except Int (List Wn)
  | xs, [] => .ok xs
  | xs, r :: rs => if 65536 < (rmT (nmRm r)).length then .error 3 else tidyGo (insT xs (txW r)) rs
def tidyL (rs : List Rm) : Except Int (List Wn) := if mayPm rs ≠ 0 then .error (mayPm rs) else tidyGo [] rs
def tidR (x : Except Int (List Wn)) : List Rm := match x with
  | .ok xs => xs.map (·.2)
  | .error _ => []
def tidE (x : Except Int (List Wn)) : Int := match x with
  | .ok _ => 0
  | .error e => e
theorem tidyGo_app : ∀ (rs qs : List Rm) (xs : List Wn), tidyGo xs (rs ++ qs) = (tidyGo xs rs).bind fun ys => tidyGo ys qs
  | [], qs, xs => rfl
  | r :: rs, qs, xs => by
    rw [List.cons_append, tidyGo, tidyGo]
    split
    · rfl
    · exact tidyGo_app rs qs _
theorem tidyGo_len : ∀ {rs : List Rm} {xs ys : List Wn}, tidyGo xs rs = .ok ys → ys.length ≤ xs.length + rs.length
  | [], xs, ys, h => by cases h; simp
  | r :: rs, xs, ys, h => by
    rw [tidyGo] at h
    split at h
    · cases h
    · have h1 := tidyGo_len h
      have h2 := insT_len xs (txW r)
      simp only [List.length_cons]; omega
theorem tidyGo_sort : ∀ {rs : List Rm} {xs ys : List Wn}, SortT xs → tidyGo xs rs = .ok ys → SortT ys
  | [], xs, ys, hs, h => by cases h; exact hs
  | r :: rs, xs, ys, hs, h => by
    rw [tidyGo] at h
    split at h
    · cases h
    · exact tidyGo_sort (insT_sort hs _) h
theorem tidy_step {rs : List Rm} {k : Nat} {xs : List Wn} (hk : k < rs.length) (h : tidyGo [] (rs.take k) = .ok xs) :
    (65536 < (rmT (nmRm rs[k])).length → tidyGo [] rs = .error 3) ∧ (¬ 65536 < (rmT (nmRm rs[k])).length → tidyGo [] (rs.take (k + 1)) = .ok (insT xs (txW rs[k]))) := by
  constructor
  · intro hb
    have e : rs = rs.take k ++ rs[k] :: rs.drop (k + 1) := by rw [← List.drop_eq_getElem_cons hk, List.take_append_drop]
    have e2 : tidyGo [] rs = tidyGo [] (rs.take k ++ rs[k] :: rs.drop (k + 1)) := congrArg _ e
    rw [e2, tidyGo_app, h]
    show tidyGo xs (rs[k] :: rs.drop (k + 1)) = _
    rw [tidyGo, if_pos hb]
  · intro hb
    rw [← List.take_append_getElem hk, tidyGo_app, h]
    show tidyGo xs [rs[k]] = _
    rw [tidyGo, if_neg hb]; rfl
end Go.Proofs.YtphgglnkdfndiaaDoor
