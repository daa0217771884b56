/-
  Ranks of texts: the plain law.
-/
import Derived.Test.YtcmgeiohcgngeaaSymTb
namespace Go.Proofs.Ytcmgeiohcgngeaa
open Go Go.RowKit Go.Mine
set_option linter.unusedVariables false

def tbs (x : ByteArray) : List UInt8 := x.toList
theorem tbs_inj {x y : ByteArray} (h : tbs x = tbs y) : x = y := by
  have : (x.toList == y.toList) = true := beq_iff_eq.2 h
  rw [baEq] at this
  simpa using this
theorem blt_iff (x y : ByteArray) : blt x y = decide (tbs x < tbs y) := by unfold blt tbs; rw [bytesLess_eq]
theorem lt_of_ne {x y : ByteArray} (h : x ≠ y) : tbs x < tbs y ∨ tbs y < tbs x := by
  rcases List.le_total (tbs x) (tbs y) with h1 | h1
  · rcases List.le_iff_lt_or_eq.1 h1 with h2 | h2
    · exact .inl h2
    · exact absurd (tbs_inj h2) h
  · rcases List.le_iff_lt_or_eq.1 h1 with h2 | h2
    · exact .inr h2
    · exact absurd (tbs_inj h2).symm h
/-- how many texts are below one -/
def rkT (l : List ByteArray) (x : ByteArray) : Nat := (l.filter fun y => decide (tbs y < tbs x)).length
def rkL (l : List ByteArray) : List Nat := l.map (rkT l)
@[simp] theorem rkL_len (l : List ByteArray) : (rkL l).length = l.length := by simp [rkL]
theorem rkT_lt {l : List ByteArray} {x : ByteArray} (h : x ∈ l) : rkT l x < l.length := by
  unfold rkT
  rcases Nat.lt_or_ge (l.filter fun y => decide (tbs y < tbs x)).length l.length with h1 | h1
  · exact h1
  · have h2 : l.filter (fun y => decide (tbs y < tbs x)) = l := (List.filter_sublist).eq_of_length_le h1
    have h3 : x ∈ l.filter (fun y => decide (tbs y < tbs x)) := by rw [h2]; exact h
    have h4 := (List.mem_filter.1 h3).2
    simp at h4
    exact absurd h4 (List.lt_irrefl _)
theorem rkT_mono {l : List ByteArray} {x y : ByteArray} (hx : x ∈ l) (h : tbs x < tbs y) : rkT l x < rkT l y := by
  unfold rkT
  have hs : ∀ z, decide (tbs z < tbs x) = true → decide (tbs z < tbs y) = true := fun z hz => by
    simp only [decide_eq_true_eq] at *
    exact List.lt_trans hz h
  induction l with
  | nil => cases hx
  | cons z l ih =>
    have hle : ∀ m : List ByteArray, (m.filter fun y => decide (tbs y < tbs x)).length ≤ (m.filter fun z => decide (tbs z < tbs y)).length := fun m => by
      induction m with
      | nil => exact Nat.le_refl _
      | cons u m ihm =>
        rw [List.filter_cons, List.filter_cons]
        by_cases hu : decide (tbs u < tbs x) = true
        · rw [if_pos hu, if_pos (hs u hu), List.length_cons, List.length_cons]; omega
        · rw [if_neg hu]
          split
          · rw [List.length_cons]; omega
          · exact ihm
    rw [List.filter_cons, List.filter_cons]
    by_cases hz : z = x
    · subst hz
      rw [if_neg (by simp), if_pos (by simpa using h), List.length_cons]
      have := hle l
      omega
    · have hxl : x ∈ l := (List.mem_cons.1 hx).resolve_left (fun e => hz e.symm)
      have h1 := ih hxl
      by_cases hu : decide (tbs z < tbs x) = true
      · rw [if_pos hu, if_pos (hs z hu), List.length_cons, List.length_cons]; omega
      · rw [if_neg hu]
        split
        · rw [List.length_cons]; omega
        · exact h1
theorem rkT_inj {l : List ByteArray} {x y : ByteArray} (hx : x ∈ l) (hy : y ∈ l) (h : rkT l x = rkT l y) : x = y := by
  by_cases e : x = y
  · exact e
  · rcases lt_of_ne e with h1 | h1
    · have := rkT_mono hx h1; omega
    · have := rkT_mono hy h1; omega
/-- the texts' places in the order of the texts: what it is -/
structure IsRise (l : List ByteArray) (R : List Nat) : Prop where
  len : R.length = l.length
  at_ : ∀ p i, R[p]? = some i → ∃ x, l[i]? = some x ∧ rkT l x = p
theorem rkT_perm {l m : List ByteArray} (h : l.Perm m) (x : ByteArray) : rkT l x = rkT m x := (h.filter _).length_eq
theorem idx_inj {l : List ByteArray} (hn : l.Nodup) {i j : Nat} {x : ByteArray} (hi : l[i]? = some x) (hj : l[j]? = some x) : i = j := by
  rcases Nat.lt_trichotomy i j with h | h | h
  · exact absurd rfl (pw_ne hn h hi hj)
  · exact h
  · exact absurd rfl (pw_ne hn h hj hi)
where
  pw_ne {l : List ByteArray} (hn : l.Nodup) {i j : Nat} {x y : ByteArray} (h : i < j) (hi : l[i]? = some x) (hj : l[j]? = some y) : x ≠ y := by
    obtain ⟨h1, rfl⟩ := List.getElem?_eq_some_iff.1 hi
    obtain ⟨h2, rfl⟩ := List.getElem?_eq_some_iff.1 hj
    exact (List.pairwise_iff_getElem.1 hn) i j h1 h2 h
theorem IsRise.uniq {l : List ByteArray} {R Q : List Nat} (hn : l.Nodup) (hR : IsRise l R) (hQ : IsRise l Q) : R = Q := by
  refine List.ext_getElem? fun p => ?_
  by_cases hp : p < l.length
  · have h1 : R[p]? = some (R[p]'(by rw [hR.len]; exact hp)) := List.getElem?_eq_getElem _
    have h2 : Q[p]? = some (Q[p]'(by rw [hQ.len]; exact hp)) := List.getElem?_eq_getElem _
    obtain ⟨x, hx, hrx⟩ := hR.at_ p _ h1
    obtain ⟨y, hy, hry⟩ := hQ.at_ p _ h2
    obtain rfl := rkT_inj (List.mem_of_getElem? hx) (List.mem_of_getElem? hy) (hrx.trans hry.symm)
    rw [h1, h2, idx_inj hn hx hy]
  · rw [List.getElem?_eq_none (by rw [hR.len]; omega), List.getElem?_eq_none (by rw [hQ.len]; omega)]
/-- places that are sorted by their texts -/
theorem rise_sorted {l : List ByteArray} {R : List Nat} (hn : l.Nodup) (hp : R.Perm (List.range l.length)) (hs : R.Pairwise fun i j => ∀ x y, l[i]? = some x → l[j]? = some y → ¬ tbs y < tbs x) : IsRise l R := by
  have hlen : R.length = l.length := by rw [hp.length_eq, List.length_range]
  refine ⟨hlen, fun p i hi => ?_⟩
  have hil : i < l.length := List.mem_range.1 (hp.mem_iff.1 (List.mem_of_getElem? hi))
  refine ⟨l[i], List.getElem?_eq_getElem hil, ?_⟩
  have hall : ∀ j ∈ R, j < l.length := fun j hj => List.mem_range.1 (hp.mem_iff.1 hj)
  -- the texts in their order
  have hm : l.Perm (R.map fun j => l.getD j ⟨#[]⟩) := by
    have h1 := hp.map (fun j => l.getD j ⟨#[]⟩)
    have h2 : (List.range l.length).map (fun j => l.getD j ⟨#[]⟩) = l := by
      refine List.ext_getElem? fun k => ?_
      rw [List.getElem?_map]
      by_cases hk : k < l.length
      · rw [List.getElem?_eq_getElem (by simpa using hk), List.getElem_range]
        simp [hk]
      · rw [List.getElem?_eq_none (by simpa using hk), List.getElem?_eq_none (by omega)]
        rfl
    rw [h2] at h1
    exact h1.symm
  rw [rkT_perm hm]
  unfold rkT
  obtain ⟨hpl, rfl⟩ := List.getElem?_eq_some_iff.1 hi
  have hsplit := get_mid hpl
  have hnd : (R.map fun j => l.getD j ⟨#[]⟩).Nodup := hm.nodup_iff.1 hn
  have hlt : ∀ j ∈ R.take p, decide (tbs (l.getD j ⟨#[]⟩) < tbs l[R[p]]) = true := fun j hj => by
    obtain ⟨k, hk, rfl⟩ := List.getElem_of_mem hj
    rw [List.length_take] at hk
    rw [List.getElem_take]
    have hkl : k < R.length := by omega
    have h1 := hall _ (List.getElem_mem hkl)
    have h2 := (List.pairwise_iff_getElem.1 hs) k p hkl hpl (by omega) _ _ (List.getElem?_eq_getElem h1) (List.getElem?_eq_getElem hil)
    have h3 : l[R[k]] ≠ l[R[p]] := fun e => by
      have h4 := (List.pairwise_iff_getElem.1 hnd) k p (by rw [List.length_map]; omega) (by rw [List.length_map]; omega) (by omega)
      rw [List.getElem_map, List.getElem_map] at h4
      exact h4 (by simp [h1, hil, e])
    have h5 : l.getD R[k] ⟨#[]⟩ = l[R[k]] := by simp [h1]
    rw [h5, decide_eq_true_eq]
    exact (lt_of_ne h3).resolve_right h2
  have hge : ∀ j ∈ R[p] :: R.drop (p + 1), ¬ decide (tbs (l.getD j ⟨#[]⟩) < tbs l[R[p]]) = true := fun j hj => by
    rcases List.mem_cons.1 hj with rfl | hj
    · have h5 : l.getD R[p] ⟨#[]⟩ = l[R[p]] := by simp [hil]
      rw [h5]; simp
    · obtain ⟨k, hk, rfl⟩ := List.getElem_of_mem hj
      rw [List.length_drop] at hk
      rw [List.getElem_drop]
      have hkl : p + 1 + k < R.length := by omega
      have h1 := hall _ (List.getElem_mem hkl)
      have h2 := (List.pairwise_iff_getElem.1 hs) p (p + 1 + k) hpl hkl (by omega) _ _ (List.getElem?_eq_getElem hil) (List.getElem?_eq_getElem h1)
      have h5 : l.getD R[p + 1 + k] ⟨#[]⟩ = l[R[p + 1 + k]] := by simp [h1]
      rw [h5, decide_eq_true_eq]
      exact h2
  generalize tbs l[R[p]] = t at hlt hge ⊢
  have e : (R.map fun j => l.getD j ⟨#[]⟩).filter (fun y => decide (tbs y < t)) = (R.take p).map fun j => l.getD j ⟨#[]⟩ := by
    have hms : (R.map fun j => l.getD j ⟨#[]⟩) = (R.take p).map (fun j => l.getD j ⟨#[]⟩) ++ (R[p] :: R.drop (p + 1)).map (fun j => l.getD j ⟨#[]⟩) := by rw [← List.map_append, ← hsplit]
    rw [hms, List.filter_append]
    rw [List.filter_eq_self.2 (fun x hx => by
      obtain ⟨j, hj, rfl⟩ := List.mem_map.1 hx
      exact hlt j hj), List.filter_eq_nil_iff.2 (fun x hx => by
      obtain ⟨j, hj, rfl⟩ := List.mem_map.1 hx
      exact hge j hj), List.append_nil]
  rw [e, List.length_map, List.length_take]
  omega
/-- there are such places -/
theorem rise_ex {l : List ByteArray} (hn : l.Nodup) : ∃ R, IsRise l R ∧ R.Perm (List.range l.length) := by
  obtain ⟨le, hle⟩ : ∃ le : Nat → Nat → Bool, le = fun i j => !decide (tbs (l.getD j ⟨#[]⟩) < tbs (l.getD i ⟨#[]⟩)) := ⟨_, rfl⟩
  have h1 : ∀ a b c, le a b = true → le b c = true → le a c = true := fun a b c h2 h3 => by
    rw [hle] at *
    simp only [Bool.not_eq_true', decide_eq_false_iff_not] at *
    exact List.not_lt.2 (List.le_trans (List.not_lt.1 h2) (List.not_lt.1 h3))
  have h2 : ∀ a b, (le a b || le b a) = true := fun a b => by
    rw [hle]
    simp only [Bool.or_eq_true, Bool.not_eq_true', decide_eq_false_iff_not]
    rcases List.le_total (tbs (l.getD a ⟨#[]⟩)) (tbs (l.getD b ⟨#[]⟩)) with h | h
    · exact .inl (List.not_lt.2 h)
    · exact .inr (List.not_lt.2 h)
  have hp := List.mergeSort_perm (List.range l.length) le
  have hs := List.pairwise_mergeSort h1 h2 (List.range l.length)
  refine ⟨_, rise_sorted hn hp (hs.imp fun {i j} h x y hx hy => ?_), hp⟩
  rw [hle] at h
  simp only [Bool.not_eq_true', decide_eq_false_iff_not] at h
  have e1 : l.getD i ⟨#[]⟩ = x := by rw [List.getD_eq_getElem?_getD, hx]; rfl
  have e2 : l.getD j ⟨#[]⟩ = y := by rw [List.getD_eq_getElem?_getD, hy]; rfl
  rw [e1, e2] at h
  exact h
/-- each rank is some text's -/
theorem rank_onto {l : List ByteArray} (hn : l.Nodup) {p : Nat} (hp : p < l.length) : ∃ (i : Nat) (x : ByteArray), l[i]? = some x ∧ rkT l x = p := by
  obtain ⟨R, hR, _⟩ := rise_ex hn
  obtain ⟨x, hx, hr⟩ := hR.at_ p _ (List.getElem?_eq_getElem (by rw [hR.len]; exact hp))
  exact ⟨_, x, hx, hr⟩
/-- the places in their order -/
noncomputable def riseL (l : List ByteArray) : List Nat := if h : l.Nodup then Classical.choose (rise_ex h) else []
theorem riseL_is {l : List ByteArray} (h : l.Nodup) : IsRise l (riseL l) := by
  unfold riseL
  rw [dif_pos h]
  exact (Classical.choose_spec (rise_ex h)).1
theorem riseL_perm {l : List ByteArray} (h : l.Nodup) : (riseL l).Perm (List.range l.length) := by
  unfold riseL
  rw [dif_pos h]
  exact (Classical.choose_spec (rise_ex h)).2
end Go.Proofs.Ytcmgeiohcgngeaa
