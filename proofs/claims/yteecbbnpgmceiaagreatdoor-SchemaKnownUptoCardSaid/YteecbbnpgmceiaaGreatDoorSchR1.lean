/-
  The document's stands and Safe, walked.
-/
import Derived.Test.YteecbbnpgmceiaaGreatDoorSafeG
namespace Go.Proofs.YteecbbnpgmceiaaGreatDoor
open Go Go.RowKit Go.Mine
set_option linter.unusedVariables false
set_option maxHeartbeats 4000000
set_option maxRecDepth 100000

theorem hasS_app (a b : List ByteArray) (x : ByteArray) : hasS (a ++ b) x = (hasS a x || hasS b x) := by unfold hasS; rw [List.any_append]
theorem hasS_one (y x : ByteArray) : hasS [y] x = decide (x = y) := by simp [hasS]
theorem hasS_body {ls : List Lm} {i k : Nat} {x : ByteArray} (hi : i < ls.length) (hk : k < ls[i].atom.terms.length) (h1 : ls[i].kind = 1) (h2 : ls[i].atom.terms[k].kind = 1) (h3 : ls[i].atom.terms[k].text = x) : hasS (boundL ls) x = true := by
  unfold hasS
  rw [List.any_eq_true]
  refine ⟨x, ?_, by simp⟩
  unfold boundL
  rw [List.mem_flatMap]
  refine ⟨ls[i], List.getElem_mem hi, ?_⟩
  unfold boundT
  rw [List.mem_map]
  exact ⟨ls[i].atom.terms[k], List.mem_filter.2 ⟨List.getElem_mem hk, by simp [h1, h2]⟩, h3⟩
end Go.Proofs.YteecbbnpgmceiaaGreatDoor
