/-
  marked: the mark behind one's own terms; num.
-/
import Derived.Test.YtidgpcjnfkhjoaaDoorOwn
namespace Go.Proofs.YtidgpcjnfkhjoaaDoor
open Go Go.RowKit Go.Mine
set_option linter.unusedVariables false
set_option maxHeartbeats 4000000
set_option maxRecDepth 100000

theorem marked_true (p : ByteArray) (ts : List Tm) (g c : Nat) (w : World) (h : OwnT w g c ts) (hn : ts.length < 2 ^ 30) :
    Calls Tryd.prog 77 #[.agg #[.string p, .slice (some ⟨g, 0, none⟩) ts.length c]] w fun e w' => e = .returned (.bool true) ∧ Mod (fun _ => False) w w' := by
  obtain ⟨hc, hcm⟩ := h.cap
  have hm0 : Mod (fun _ => False) w (w.alloc (.cells #[.string p, .slice (some ⟨g, 0, none⟩) ts.length c] 40)) := (Mod.refl _ w).alloc _
  have hk : (w.alloc (.cells #[.string p, .slice (some ⟨g, 0, none⟩) ts.length c] 40)).cell? ⟨g, ts.length * 2, none⟩ = some (.int .i64 (-77)) := cell_old h.mark
  have d1 : (w.alloc (.cells #[.string p, .slice (some ⟨g, 0, none⟩) ts.length c] 40)).cell? ⟨w.heap.size, 1, none⟩ = some (.slice (some ⟨g, 0, none⟩) ts.length c) := cell_new rfl
  unfold maxLen at hcm
  have hlt : ts.length < c := by omega
  have HM0 := Lib.hid hm0
  clear h
  go_enter Tryd.func77, Tryd.ntmps77
  go_wp2_with fail
  generalize (w.alloc (.cells #[.string p, .slice (some ⟨g, 0, none⟩) ts.length c] 40)) = w0 at *
  go_ret
  exact ⟨rfl, HM0.out⟩
end Go.Proofs.YtidgpcjnfkhjoaaDoor
