/-
  sibylref09.renamed: one term, the names so far, and one more.
-/
import Derived.Test.YtgplagdehfhffaaDoorNumber
import Derived.Test.YtgplagdehfhffaaDoorSame
namespace Go.Proofs.YtgplagdehfhffaaDoor
open Go Go.RowKit Go.Mine
set_option linter.unusedVariables false
set_option maxHeartbeats 4000000
set_option maxRecDepth 100000

theorem tiS : TI Tryd.prog 138 9 1 16 := TI.mk' (z := .string ByteArray.empty) (by kernel_rfl) (by kernel_rfl) rfl (by omega)
theorem vN_cat (n : Nat) : (⟨#[86]⟩ : ByteArray) ++ ⟨(Lib.decDigits n).toArray⟩ = vN n := ba_cat [86] (Lib.decDigits n)
theorem place_at {x : ByteArray} {l : List ByteArray} {k : Nat} (h1 : k ≤ place x l) (hk : l[k]? = some x) : place x l = k := by
  rcases Nat.lt_or_ge k (place x l) with h | h
  · exact absurd rfl (place_before h hk)
  · omega
theorem place_past {x : ByteArray} {l : List ByteArray} {k : Nat} (h1 : k ≤ place x l) (hk : k < l.length) (hn : l[k] ≠ x) : k + 1 ≤ place x l := by
  rcases Nat.lt_or_ge k (place x l) with h | h
  · exact h
  · have e : place x l = k := by omega
    have := place_get (place_iff.1 (by rw [e]; exact hk))
    rw [e, List.getElem?_eq_getElem hk] at this
    exact absurd (Option.some.inj this) hn
theorem more_old {x : ByteArray} {l : List ByteArray} (h : place x l < l.length) : more l x = l := by unfold more; rw [if_pos h]
theorem more_new {x : ByteArray} {l : List ByteArray} (h : place x l = l.length) : more l x = l ++ [x] ∧ place x (l ++ [x]) = l.length := by
  have hn : x ∉ l := fun hm => by have := place_lt hm; omega
  exact ⟨by unfold more; rw [if_neg (by omega)], place_new hn⟩
theorem sts_get {l : List ByteArray} {k : Nat} (hk : k < l.length) : (sts l)[k]? = some (.string l[k]) := by simp [sts, hk]

end Go.Proofs.YtgplagdehfhffaaDoor
