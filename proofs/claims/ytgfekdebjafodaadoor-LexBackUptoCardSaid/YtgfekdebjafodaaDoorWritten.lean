/- sibyllaw06.written. -/
import Derived.Test.YtgfekdebjafodaaDoorScanS
import Derived.Test.YtgfekdebjafodaaDoorBackL
namespace Go.Proofs.YtgfekdebjafodaaDoor
open Go Go.RowKit Go.Mine
set_option maxHeartbeats 4000000
set_option maxRecDepth 100000
set_option linter.unusedVariables false

theorem ret_str {s t : ByteArray} (h : s = t) : Ending.returned (.string s) = .returned (.string t) := by rw [h]
theorem written_any (t : Tok) (hg : Good t) (hs : t.text.size ≤ 65536) (w : World) :
    Calls Tryd.prog 20 #[encT t] w fun e w' => e = .returned (.string ⟨(writtenL t).toArray⟩) ∧ Mod (fun _ => False) w w' := by
  obtain ⟨k, s, p⟩ := t
  have HQ := Lib.hid (fun w => lexQuoted_any s w (by have h : s.size ≤ 65536 := hs; omega))
  unfold encT writtenL
  unfold Good at hg
  simp only at hg ⊢
  have hm : ∀ W : World, Mod (fun _ => False) w W → True := fun _ _ => trivial
  rcases hg with rfl | ⟨hk, _⟩ | ⟨h1, h2, _⟩
  · go_enter Tryd.func20, Tryd.ntmps20
    go_wp2_with (first
      | (go_at_call 18; refine (HQ.out _).mono ?_; rintro e w' ⟨rfl, hM⟩; have HM := Lib.hid hM; clear hM))
    go_ret
    exact ⟨rfl, (((Mod.refl _ w).alloc _).alloc _).trans HM.out⟩
  · rcases hk with rfl | rfl
    all_goals
      go_enter Tryd.func20, Tryd.ntmps20
      go_wp2
      go_ret
      exact ⟨ret_str rfl, ((Mod.refl _ w).alloc _).alloc _⟩
  · have hc : k = 4 ∨ k = 5 ∨ k = 6 ∨ k = 7 ∨ k = 8 ∨ k = 9 ∨ k = 10 ∨ k = 11 ∨ k = 12 ∨ k = 13 := by omega
    clear h1 h2
    rcases hc with rfl | rfl | rfl | rfl | rfl | rfl | rfl | rfl | rfl | rfl
    all_goals
      go_enter Tryd.func20, Tryd.ntmps20
      go_wp2
      go_ret
      exact ⟨rfl, ((Mod.refl _ w).alloc _).alloc _⟩
end Go.Proofs.YtgfekdebjafodaaDoor
