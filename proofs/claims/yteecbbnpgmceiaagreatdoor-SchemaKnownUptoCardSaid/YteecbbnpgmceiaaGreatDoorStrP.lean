/-
  A text as a string, read.
-/
import Derived.Test.YteecbbnpgmceiaaGreatDoorAwake
import Derived.Test.YteecbbnpgmceiaaGreatDoorBackL
namespace Go.Proofs.YteecbbnpgmceiaaGreatDoor
open Go Go.RowKit Go.Mine
set_option linter.unusedVariables false
set_option maxHeartbeats 4000000
set_option maxRecDepth 100000

theorem rd_bytesRow (s : ByteArray) (w : World) (cap : Nat) (e : TypeId) (fz : Nat × Nat) : Rd (w.alloc (.cells (bytesRow s cap) e fz)).drew (some ⟨w.heap.size, 0, none⟩) (bts s.data.toList) := by
  intro i x hi
  refine ⟨_, _, rfl, ?_⟩
  show (w.alloc (.cells (bytesRow s cap) e fz)).cell? ⟨w.heap.size, 0 + i, none⟩ = some x
  rw [cell_of_row _ w.heap.size _ (bytesRow s cap) e fz (heap_alloc_new w _)]
  unfold bts at hi
  rw [List.getElem?_map] at hi
  by_cases hl : i < s.data.size
  · rw [List.getElem?_eq_getElem (by simpa using hl)] at hi
    simp only [Option.map_some, Option.some.injEq] at hi
    rw [← hi]
    have := bytesRow_at s cap i hl
    simpa using this
  · rw [List.getElem?_eq_none (by simpa using hl)] at hi
    cases hi
theorem drew_mod (w : World) : Mod (fun _ => False) w w.drew := (Mod.refl _ w).drew
/-- a text as a string, read -/
theorem parse_str (s : ByteArray) (r : PR (List Rm)) (h : progS s = r) (hs : s.size < 2 ^ 30) (W : World) (hT : Lib.Utf8Tabs 1 2 W) (cap : Nat) (fz : Nat × Nat) :
    Calls Tryz.prog 15 #[.slice (some ⟨W.heap.size, 0, none⟩) s.size cap] (W.alloc (.cells (bytesRow s cap) 5 fz)).drew fun e w' =>
      ∃ v, e = .returned (.tuple #[.agg #[v], .int .i64 (atOf r), .int .i64 (noOf r)]) ∧ RsAt w' v (valOf [] r) ∧ Mod (fun _ => False) W w' := by
  have hm0 : Mod (fun _ => False) W (W.alloc (.cells (bytesRow s cap) 5 fz)).drew := ((Mod.refl _ W).alloc _).drew
  have hP := parse_says s.data.toList s.size (by rw [Lib.size_eq]) hs _ cap _ (rd_bytesRow s W cap _ fz) (tabs_mod hT hm0)
  rw [ba_mk, h] at hP
  refine hP.mono ?_
  rintro e w1 ⟨v, he, hv, hM⟩
  exact ⟨v, he, hv, hm0.trans hM⟩
end Go.Proofs.YteecbbnpgmceiaaGreatDoor
