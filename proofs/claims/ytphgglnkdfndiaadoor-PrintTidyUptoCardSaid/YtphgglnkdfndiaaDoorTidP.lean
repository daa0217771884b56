/-
  The plain law of PrintTidy: what is tidy hangs on the rules' normal forms alone.
-/
import Derived.Test.YtphgglnkdfndiaaDoorTidyL
import Derived.Test.YtphgglnkdfndiaaDoorRenL
import Derived.Test.YtphgglnkdfndiaaDoorBkG
import Derived.Test.YtphgglnkdfndiaaDoorRefNorm
namespace Go.Proofs.YtphgglnkdfndiaaDoor
open Go Go.RowKit Go.Mine
set_option linter.unusedVariables false

theorem few_nm9 {r : Rm} (h : mayRm r = 0) : (namesR r).length < 90000 := by
  obtain ⟨h1, h2, h3⟩ := may_rule h
  have e1 := nmTs_le [] r.head.terms
  have e2 := nmLs_le (nmTs [] r.head.terms).2 r.body h3
  have e3 := (okAm h1).few
  unfold namesR
  simp at e1
  omega
theorem rmT_inj {r q : Rm} (hr : mayRm r = 0) (hq : mayRm q = 0) (hl : (rmT r).length ≤ 65536) (h : rmT r = rmT q) : r = q := by
  have h1 := rm_back hr hl
  have h2 := rm_back hq (by rw [← h]; exact hl)
  rw [h, h2] at h1
  exact (Except.ok.inj h1).symm
theorem fits_ok : ∀ {rs : List Rm} (xs : List Wn), (∀ r ∈ rs, ¬ 65536 < (rmT (nmRm r)).length) → ∃ ys, tidyGo xs rs = .ok ys
  | [], xs, _ => ⟨xs, rfl⟩
  | r :: rs, xs, h => by
    rw [tidyGo, if_neg (h r (List.mem_cons_self ..))]
    exact fits_ok _ (fun q hq => h q (List.mem_cons_of_mem _ hq))
theorem ok_fits : ∀ {rs : List Rm} {xs ys : List Wn}, tidyGo xs rs = .ok ys → ∀ r ∈ rs, ¬ 65536 < (rmT (nmRm r)).length
  | r :: rs, xs, ys, h, q, hq => by
    rw [tidyGo] at h
    split at h
    · cases h
    · rename_i hn
      rcases List.mem_cons.1 hq with rfl | hq
      · exact hn
      · exact ok_fits h q hq
/-- an element stands for its text -/
def Inj1 (xs : List Wn) : Prop := ∀ x ∈ xs, ∀ y ∈ xs, x.1 = y.1 → x = y
theorem insT_iff {xs : List Wn} {x : Wn} (hi : ∀ y ∈ xs, y.1 = x.1 → y = x) (y : Wn) : y ∈ insT xs x ↔ y = x ∨ y ∈ xs := by
  unfold insT
  split
  · rename_i h
    refine ⟨.inr, fun h2 => ?_⟩
    rcases h2 with rfl | h2
    · by_cases hl : lbT xs y.1 < xs.length
      · rw [hasT_iff hl] at h
        have h3 := of_decide_eq_true h
        have h4 := hi _ (List.getElem_mem hl) h3
        rw [← h4]; exact List.getElem_mem hl
      · rw [hasT_out hl] at h; cases h
    · exact h2
  · have e : ∀ k, xs.take k ++ x :: xs.drop k = xs.take k ++ ([x] ++ xs.drop k) := fun k => rfl
    constructor
    · intro h
      rcases List.mem_append.1 h with h | h
      · exact .inr (List.mem_of_mem_take h)
      · rcases List.mem_cons.1 h with h | h
        · exact .inl h
        · exact .inr (List.mem_of_mem_drop h)
    · intro h
      rcases h with rfl | h
      · exact List.mem_append_right _ (List.mem_cons_self ..)
      · rw [← List.take_append_drop (lbT xs x.1) xs] at h
        rcases List.mem_append.1 h with h | h
        · exact List.mem_append_left _ h
        · exact List.mem_append_right _ (List.mem_cons_of_mem _ h)
theorem txW_inj {r q : Rm} (hr : mayRm r = 0) (hq : mayRm q = 0) (hl : ¬ 65536 < (rmT (nmRm r)).length) (h : (txW r).1 = (txW q).1) : txW r = txW q := by
  have h1 := (normal_law hr (few_nm9 hr)).1
  have h2 := (normal_law hq (few_nm9 hq)).1
  have ht : rmT (nmRm r) = rmT (nmRm q) := by
    have := congrArg (fun x => x.data.toList) h
    exact this
  have e := rmT_inj h1 h2 (by omega) ht
  unfold txW
  rw [e]
theorem tidyGo_iff : ∀ {rs : List Rm} {xs ys : List Wn}, (∀ r ∈ rs, mayRm r = 0) → (∀ x ∈ xs, ∃ q, mayRm q = 0 ∧ ¬ 65536 < (rmT (nmRm q)).length ∧ x = txW q) → tidyGo xs rs = .ok ys → ∀ y, y ∈ ys ↔ y ∈ xs ∨ ∃ r ∈ rs, y = txW r
  | [], xs, ys, _, _, h, y => by cases h; simp
  | r :: rs, xs, ys, hm, hx, h, y => by
    have hf := ok_fits h r (List.mem_cons_self ..)
    rw [tidyGo, if_neg hf] at h
    have hmr := hm r (List.mem_cons_self ..)
    have hins : ∀ z, z ∈ insT xs (txW r) ↔ z = txW r ∨ z ∈ xs := insT_iff (fun z hz e => by
      obtain ⟨q, hq, hl, rfl⟩ := hx z hz
      exact txW_inj hq hmr hl e)
    have ih := tidyGo_iff (fun q hq => hm q (List.mem_cons_of_mem _ hq)) (fun x hx2 => by
      rcases (hins x).1 hx2 with rfl | h2
      · exact ⟨r, hmr, hf, rfl⟩
      · exact hx x h2) h y
    rw [ih, hins]
    constructor
    · rintro ((h1 | h1) | ⟨q, hq, e⟩)
      · exact .inr ⟨r, List.mem_cons_self .., h1⟩
      · exact .inl h1
      · exact .inr ⟨q, List.mem_cons_of_mem _ hq, e⟩
    · rintro (h1 | ⟨q, hq, e⟩)
      · exact .inl (.inr h1)
      · rcases List.mem_cons.1 hq with rfl | hq
        · exact .inl (.inl e)
        · exact .inr ⟨q, hq, e⟩
theorem sort_uniq : ∀ {xs ys : List Wn}, SortT xs → SortT ys → (∀ y, y ∈ xs ↔ y ∈ ys) → xs = ys
  | [], [], _, _, _ => rfl
  | [], y :: ys, _, _, h => absurd ((h y).2 (List.mem_cons_self ..)) (by simp)
  | x :: xs, [], _, _, h => absurd ((h x).1 (List.mem_cons_self ..)) (by simp)
  | x :: xs, y :: ys, h1, h2, h => by
    have a1 := List.pairwise_cons.1 h1
    have a2 := List.pairwise_cons.1 h2
    have hxy : x = y := by
      rcases List.mem_cons.1 ((h x).1 (List.mem_cons_self ..)) with e | e
      · exact e
      · rcases List.mem_cons.1 ((h y).2 (List.mem_cons_self ..)) with e2 | e2
        · exact e2.symm
        · exact absurd (List.lt_trans (a2.1 x e) (a1.1 y e2)) (List.lt_irrefl _)
    subst hxy
    rw [sort_uniq a1.2 a2.2 (fun z => ?_)]
    constructor
    · intro hz
      rcases List.mem_cons.1 ((h z).1 (List.mem_cons_of_mem _ hz)) with rfl | e
      · exact absurd (a1.1 _ hz) (List.lt_irrefl _)
      · exact e
    · intro hz
      rcases List.mem_cons.1 ((h z).2 (List.mem_cons_of_mem _ hz)) with rfl | e
      · exact absurd (a2.1 _ hz) (List.lt_irrefl _)
      · exact e
/-- the same normal forms -/
def SameN (rs qs : List Rm) : Prop := ∀ n, (∃ r ∈ rs, nmRm r = n) ↔ ∃ q ∈ qs, nmRm q = n
theorem SameN.refl (rs : List Rm) : SameN rs rs := fun _ => Iff.rfl
theorem SameN.trans {rs qs ps : List Rm} (h : SameN rs qs) (k : SameN qs ps) : SameN rs ps := fun n => (h n).trans (k n)
theorem tidy_same {rs qs : List Rm} (hr : ∀ r ∈ rs, mayRm r = 0) (hq : ∀ r ∈ qs, mayRm r = 0) (h : SameN rs qs) {xs : List Wn} (ht : tidyGo [] rs = .ok xs) : tidyGo [] qs = .ok xs := by
  have hf := ok_fits ht
  obtain ⟨ys, hy⟩ := fits_ok (rs := qs) [] (fun q hqm => by
    obtain ⟨r, hrm, e⟩ := (h (nmRm q)).2 ⟨q, hqm, rfl⟩
    rw [← e]; exact hf r hrm)
  have i1 := tidyGo_iff hr (fun x hx => by cases hx) ht
  have i2 := tidyGo_iff hq (fun x hx => by cases hx) hy
  have e : xs = ys := by
    refine sort_uniq (tidyGo_sort List.Pairwise.nil ht) (tidyGo_sort List.Pairwise.nil hy) (fun y => ?_)
    rw [i1, i2]
    constructor
    · rintro (h1 | ⟨r, hrm, e⟩)
      · cases h1
      · obtain ⟨q, hqm, e2⟩ := (h (nmRm r)).1 ⟨r, hrm, rfl⟩
        exact .inr ⟨q, hqm, by rw [e]; unfold txW; rw [e2]⟩
    · rintro (h1 | ⟨r, hrm, e⟩)
      · cases h1
      · obtain ⟨q, hqm, e2⟩ := (h (nmRm r)).2 ⟨r, hrm, rfl⟩
        exact .inr ⟨q, hqm, by rw [e]; unfold txW; rw [e2]⟩
  rw [e]; exact hy
/-- what is tidy has the normal forms that the rules have, each its own -/
theorem tidy_norms {rs : List Rm} (hr : ∀ r ∈ rs, mayRm r = 0) {xs : List Wn} (ht : tidyGo [] rs = .ok xs) :
    SameN rs (xs.map (·.2)) ∧ ∀ x ∈ xs, x.1 = ⟨(rmT x.2).toArray⟩ ∧ ¬ 65536 < (rmT x.2).length ∧ mayRm x.2 = 0 ∧ nmRm x.2 = x.2 ∧ ∃ r ∈ rs, nmRm r = x.2 := by
  have i1 := tidyGo_iff hr (fun x hx => by cases hx) ht
  have hf := ok_fits ht
  have each : ∀ x ∈ xs, ∃ r ∈ rs, x = txW r := fun x hx => by
    rcases (i1 x).1 hx with h | h
    · cases h
    · exact h
  refine ⟨fun n => ⟨?_, ?_⟩, fun x hx => ?_⟩
  · rintro ⟨r, hrm, rfl⟩
    have h1 : txW r ∈ xs := (i1 _).2 (.inr ⟨r, hrm, rfl⟩)
    exact ⟨nmRm r, List.mem_map.2 ⟨_, h1, rfl⟩, (normal_law (hr r hrm) (few_nm9 (hr r hrm))).2⟩
  · rintro ⟨q, hq, rfl⟩
    obtain ⟨x, hx, rfl⟩ := List.mem_map.1 hq
    obtain ⟨r, hrm, rfl⟩ := each x hx
    exact ⟨r, hrm, (normal_law (hr r hrm) (few_nm9 (hr r hrm))).2.symm⟩
  · obtain ⟨r, hrm, rfl⟩ := each x hx
    have h2 := normal_law (hr r hrm) (few_nm9 (hr r hrm))
    exact ⟨rfl, hf r hrm, h2.1, h2.2, r, hrm, rfl⟩
/-! what the mixing does -/
theorem same_set {ms : List Rm} {k : Nat} {m : Rm} (hk : k < ms.length) (he : nmRm m = nmRm ms[k]) : SameN ms (ms.set k m) := fun n => by
  constructor
  · rintro ⟨r, hr, rfl⟩
    obtain ⟨i, hi, rfl⟩ := List.mem_iff_getElem.1 hr
    by_cases e : i = k
    · subst e
      exact ⟨m, List.mem_iff_getElem.2 ⟨i, by rw [List.length_set]; exact hi, by rw [List.getElem_set_self]⟩, he⟩
    · exact ⟨ms[i], List.mem_iff_getElem.2 ⟨i, by rw [List.length_set]; exact hi, by rw [List.getElem_set_ne (Ne.symm e)]⟩, rfl⟩
  · rintro ⟨r, hr, rfl⟩
    rcases List.mem_or_eq_of_mem_set hr with h | rfl
    · exact ⟨r, h, rfl⟩
    · exact ⟨ms[k], List.getElem_mem hk, he.symm⟩
theorem same_swap {ms : List Rm} {k j : Nat} (hk : k < ms.length) (hj : j < ms.length) : SameN ms ((ms.set k ms[j]).set j ms[k]) := fun n => by
  have hm : ∀ r, r ∈ (ms.set k ms[j]).set j ms[k] ↔ r ∈ ms := fun r => by
    constructor
    · intro h
      rcases List.mem_or_eq_of_mem_set h with h | rfl
      · rcases List.mem_or_eq_of_mem_set h with h | rfl
        · exact h
        · exact List.getElem_mem hj
      · exact List.getElem_mem hk
    · intro h
      obtain ⟨i, hi, rfl⟩ := List.mem_iff_getElem.1 h
      by_cases e : i = j
      · by_cases e2 : k = j
        · exact List.mem_iff_getElem.2 ⟨j, by simpa using hj, by simp [e, e2]⟩
        · exact List.mem_iff_getElem.2 ⟨k, by simpa using hk, by rw [List.getElem_set_ne (Ne.symm e2), List.getElem_set_self]; simp [e]⟩
      · by_cases e2 : i = k
        · exact List.mem_iff_getElem.2 ⟨j, by simpa using hj, by rw [List.getElem_set_self]; simp [e2]⟩
        · exact List.mem_iff_getElem.2 ⟨i, by simpa using hi, by rw [List.getElem_set_ne (Ne.symm e), List.getElem_set_ne (Ne.symm e2)]⟩
  constructor
  · rintro ⟨r, hr, e⟩; exact ⟨r, (hm r).2 hr, e⟩
  · rintro ⟨r, hr, e⟩; exact ⟨r, (hm r).1 hr, e⟩
theorem same_more {ms : List Rm} {k : Nat} (hk : k < ms.length) : SameN ms (ms ++ [ms[k]]) := fun n => by
  constructor
  · rintro ⟨r, hr, e⟩; exact ⟨r, List.mem_append_left _ hr, e⟩
  · rintro ⟨r, hr, e⟩
    rcases List.mem_append.1 hr with h | h
    · exact ⟨r, h, e⟩
    · rw [List.mem_singleton] at h; subst h
      exact ⟨_, List.getElem_mem hk, e⟩
end Go.Proofs.YtphgglnkdfndiaaDoor
