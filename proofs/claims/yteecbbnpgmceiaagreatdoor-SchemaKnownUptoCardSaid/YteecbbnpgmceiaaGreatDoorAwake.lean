/-
  awake: the chapter's first program is read, and may be.
-/
import Derived.Test.YteecbbnpgmceiaaGreatDoorLawP
import Derived.Test.YteecbbnpgmceiaaGreatDoorMayP
import Derived.Lib.SlBytesConst
namespace Go.Proofs.YteecbbnpgmceiaaGreatDoor
open Go Go.RowKit Go.Mine
set_option linter.unusedVariables false
set_option maxHeartbeats 4000000
set_option maxRecDepth 100000

def awakeL : List UInt8 := [112, 40, 88, 44, 32, 97, 44, 32, 34, 98, 32, 99, 34, 44, 32, 95, 41, 32, 58, 45, 32, 113, 40, 88, 41, 44, 32, 33, 114, 44, 32, 88, 32, 60, 32, 49, 48, 46]
def awakeR : Rm := ⟨⟨⟨#[112]⟩, [⟨1, ⟨#[88]⟩⟩, ⟨3, ⟨#[97]⟩⟩, ⟨3, ⟨#[98, 32, 99]⟩⟩, ⟨2, ⟨#[]⟩⟩]⟩, [⟨1, ⟨⟨#[113]⟩, [⟨1, ⟨#[88]⟩⟩]⟩, 0, ⟨0, ⟨#[]⟩⟩, ⟨0, ⟨#[]⟩⟩⟩, ⟨2, ⟨⟨#[114]⟩, []⟩, 0, ⟨0, ⟨#[]⟩⟩, ⟨0, ⟨#[]⟩⟩⟩, ⟨3, ⟨⟨#[]⟩, []⟩, 3, ⟨1, ⟨#[88]⟩⟩, ⟨3, ⟨#[49, 48]⟩⟩⟩]⟩
theorem awake_reads : progS ⟨awakeL.toArray⟩ = .ok [awakeR] := by kernel_rfl
theorem awake_may : mayPm [awakeR] = 0 := prog_may awake_reads
theorem awake_small : SmallPm [awakeR] := by
  have h := prog_small awake_reads
  refine ⟨by simp, fun r hr => ?_⟩
  have h2 := h.2 r hr
  exact ⟨⟨by have := h2.1.1; omega, by have := h2.1.2.1; omega, fun t ht => by have := h2.1.2.2 t ht; unfold TmS at this; omega⟩, by have := h2.2.1; omega, fun l hl => by
    have h3 := h2.2.2 l hl
    exact ⟨⟨by have := h3.1.1; omega, by have := h3.1.2.1; omega, fun t ht => by have := h3.1.2.2 t ht; unfold TmS at this; omega⟩, by have := h3.2.1; unfold TmS at this; omega, by have := h3.2.2; unfold TmS at this; omega⟩⟩
theorem Rd.newsZ (w : World) (us : List Value) (e : TypeId) (fz : Nat × Nat) {g : Nat} (hg : g = w.heap.size := by first | rfl | simp) : Rd (w.alloc (.cells us.toArray e fz)) (some ⟨g, 0, none⟩) us := by
  subst hg
  intro i x hi
  refine ⟨_, _, rfl, ?_⟩
  rw [cell_of_row _ w.heap.size _ us.toArray e fz (heap_alloc_new w _)]
  simpa using hi
end Go.Proofs.YteecbbnpgmceiaaGreatDoor
