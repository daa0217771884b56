/-
  sibylref09.Normal walked.
-/
import Derived.Test.YtphgglnkdfndiaaDoorNormG
import Derived.Test.YtphgglnkdfndiaaDoorRefMayG
namespace Go.Proofs.YtphgglnkdfndiaaDoor
open Go Go.RowKit Go.Mine
set_option linter.unusedVariables false
set_option maxHeartbeats 8000000
set_option maxRecDepth 100000

theorem nmLm_le {l : Lm} (h : mayLm l = 0) (ns : List ByteArray) : (nmLm ns l).2.length ≤ ns.length + 64 := by
  unfold nmLm
  split
  · have h1 := nmTm_le ns l.left
    have h2 := nmTm_le (nmTm ns l.left).2 l.right
    show (nmTm (nmTm ns l.left).2 l.right).2.length ≤ _
    omega
  · rename_i hk
    have h1 := nmTs_le ns l.atom.terms
    have h2 : l.atom.terms.length ≤ 64 := by
      rcases okLm h with ⟨_, ha⟩ | ⟨_, ha⟩ | ⟨h3, _⟩
      · exact ha.few
      · exact ha.few
      · exact absurd h3 hk
    show (nmTs ns l.atom.terms).2.length ≤ _
    omega
theorem nmLs_le : ∀ (ns : List ByteArray) (ls : List Lm), (∀ l ∈ ls, mayLm l = 0) → (nmLs ns ls).2.length ≤ ns.length + 64 * ls.length
  | ns, [], _ => Nat.le_refl _
  | ns, l :: ls, h => by
    have h1 := nmLm_le (h l (List.mem_cons_self ..)) ns
    have h2 := nmLs_le (nmLm ns l).2 ls (fun x hx => h x (List.mem_cons_of_mem _ hx))
    show (nmLs (nmLm ns l).2 ls).2.length ≤ _
    rw [List.length_cons]
    omega
def NormRes (r : Rm) (w : World) (e : Ending) (w' : World) : Prop := ∃ s' b', e = .returned (.tuple #[rmV (nmR0 r) s' b', .int .i64 (mayRm r)]) ∧ RmF w' w.heap.size s' b' (nmR0 r) ∧ Mod (fun _ => False) w w'
theorem RmF.em (w : World) (lo : Nat) : RmF w lo (.slice none 0 0) (.slice none 0 0) emR := ⟨TsF.empty _ _ _ _, none, 0, [], rfl, rfl, Rd.nil _ _, fun h => absurd rfl h, fun _ h => by cases h⟩

end Go.Proofs.YtphgglnkdfndiaaDoor
