/-
  does, kind by kind: find, text, walk, nothing.
-/
import Derived.Test.YtcmgeiohcgngeaaSymWk
namespace Go.Proofs.Ytcmgeiohcgngeaa
open Go Go.RowKit Go.Mine Go.Maps
set_option linter.unusedVariables false
set_option maxHeartbeats 8000000
set_option maxRecDepth 100000

/-- two contracts that answer alike -/
def Twin (f g : Nat) (us vs : Array Value) (u : Value) (w : World) : Prop :=
  ∀ W, Mod (fun _ => False) w W → (Calls Try.prog f us W fun e w' => e = .returned u ∧ W = w') ∧ Calls Try.prog g vs W fun e w' => e = .returned u ∧ W = w'
theorem does_no (pt pm : Option Addr) (kd wh N : Int) (ta : Option Addr) (n tc : Nat) (w : World) (h1 : ¬ kd = 1) (h2 : ¬ kd = 2) (h3 : ¬ kd = 3) (h4 : ¬ kd = 4) (h5 : ¬ kd = 5) :
    Calls Try.prog 7 #[.pointer pt, .pointer pm, .agg #[.int .i64 kd, .int .i64 wh, .slice ta n tc, .int .i64 N]] w fun e w' => e = .returned (.bool true) ∧ Mod (fun _ => False) w w' := by
  have m0 : Mod (fun _ => False) w (w.alloc (.cells #[.int .i64 kd, .int .i64 wh, .slice ta n tc, .int .i64 N] 34)) := (Mod.refl _ w).alloc _
  go_enter Try.func7, Try.ntmps7
  go_wp2_with fail
  go_ret
  exact ⟨rfl, m0⟩
theorem does_walk {R : Ending → World → Prop} (pt pm : Option Addr) (wh N : Int) (ta : Option Addr) (n tc : Nat) (w : World)
    (hW : Calls Try.prog 23 #[.pointer pt, .pointer pm, .agg #[.int .i64 4, .int .i64 wh, .slice ta n tc, .int .i64 N]] (w.alloc (.cells #[.int .i64 4, .int .i64 wh, .slice ta n tc, .int .i64 N] 34)) fun e w' => e = .returned (.bool true) ∧ R e w') :
    Calls Try.prog 7 #[.pointer pt, .pointer pm, .agg #[.int .i64 4, .int .i64 wh, .slice ta n tc, .int .i64 N]] w R := by
  have b0 := heap_alloc_new w (.cells #[.int .i64 4, .int .i64 wh, .slice ta n tc, .int .i64 N] 34)
  have HW := Lib.hid hW
  clear hW
  go_enter Try.func7, Try.ntmps7
  go_wp2_with fail
  refine HW.out.mono ?_
  rintro e w1 ⟨rfl, hR⟩
  have HR := Lib.hid hR
  clear hR HW b0
  go_wp2_with fail
  exact HR.out
theorem does_text (pt pm : Option Addr) (wh N : Int) (ta : Option Addr) (n tc : Nat) (w : World) (s : ByteArray) (b : Bool) (hT : Twin 10 22 #[.pointer pt, .int .i64 N] #[.pointer pm, .int .i64 N] (.tuple #[.string s, .bool b]) w) :
    Calls Try.prog 7 #[.pointer pt, .pointer pm, .agg #[.int .i64 3, .int .i64 wh, .slice ta n tc, .int .i64 N]] w fun e w' => e = .returned (.bool true) ∧ Mod (fun _ => False) w w' := by
  have m0 : Mod (fun _ => False) w (w.alloc (.cells #[.int .i64 3, .int .i64 wh, .slice ta n tc, .int .i64 N] 34)) := (Mod.refl _ w).alloc _
  have HM := Lib.hid m0
  have HA := Lib.hid (hT _ m0).1; have HB := Lib.hid (hT _ m0).2
  clear hT m0
  go_enter Try.func7, Try.ntmps7
  go_wp2_with fail
  refine HA.out.mono ?_
  rintro e w1 ⟨rfl, rfl⟩
  go_wp2_with fail
  refine HB.out.mono ?_
  rintro e w2 ⟨rfl, rfl⟩
  cases b
  all_goals
    go_wp2_with fail
    go_ret
    exact ⟨rfl, HM.out⟩
theorem does_find (pt pm : Option Addr) (wh N : Int) (ta : Option Addr) (tc : Nat) (xs : List ByteArray) (w : World) (hR : Rd w ta (sts xs)) (hn : xs.length < 2 ^ 40) (hT : ∀ x ∈ xs, ∃ (z : Int) (b : Bool), Twin 9 21 #[.pointer pt, .string x] #[.pointer pm, .string x] (.tuple #[.int .i64 z, .bool b]) w) :
    Calls Try.prog 7 #[.pointer pt, .pointer pm, .agg #[.int .i64 2, .int .i64 wh, .slice ta xs.length tc, .int .i64 N]] w fun e w' => e = .returned (.bool true) ∧ Mod (fun _ => False) w w' := by
  have m0 : Mod (fun _ => False) w (w.alloc (.cells #[.int .i64 2, .int .i64 wh, .slice ta xs.length tc, .int .i64 N] 34)) := (Mod.refl _ w).alloc _
  have HBX := Lib.hid (heap_alloc_new w (.cells #[.int .i64 2, .int .i64 wh, .slice ta xs.length tc, .int .i64 N] 34))
  have HM := Lib.hid m0; have HT := Lib.hid hT; have HR := Lib.hid hR
  clear hT m0 hR
  go_enter Try.func7, Try.ntmps7
  go_wp2_with fail
  obtain ⟨w1, hw1⟩ : ∃ v, v = w.alloc (.cells #[.int .i64 2, .int .i64 wh, .slice ta xs.length tc, .int .i64 N] 34) := ⟨_, rfl⟩
  rw [← hw1] at HBX HM ⊢
  clear hw1
  go_loopw [14, 15, 16, 17, 18] (fun iv _ _ _ _ wr => ∃ k : Nat, iv = .int .i64 k ∧ k ≤ xs.length ∧ Hid (Mod (fun _ => False) w1 wr)) (fun iv _ _ _ _ _ => xs.length - (intOf iv).toNat)
  case atStart => exact ⟨0, rfl, Nat.zero_le _, Lib.hid (Mod.refl _ _)⟩
  case round =>
    obtain ⟨k, rfl, hk, hM⟩ := hrel
    have hb := hM.out.at HBX.out id
    have c2 : wr.cell? ⟨w.heap.size, 2, none⟩ = some (.slice ta xs.length tc) := cell_at hb rfl
    clear hb
    by_cases hlt : k < xs.length
    · obtain ⟨b, o, rfl, x0⟩ := str_cell (HR.out.mod (HM.out.trans hM.out) (fun _ _ => id)) hlt
      obtain ⟨z, fb, hT⟩ := HT.out _ (List.getElem_mem hlt)
      have HA := Lib.hid (hT _ (HM.out.trans hM.out)).1; have HB := Lib.hid (hT _ (HM.out.trans hM.out)).2
      clear hT
      generalize xs[k] = x at *
      go_wp2_with fail
      refine HA.out.mono ?_
      rintro e w2 ⟨rfl, hw2⟩
      obtain rfl : wr = w2 := hw2
      go_wp2_with fail
      refine HB.out.mono ?_
      rintro e w2 ⟨rfl, hw2⟩
      obtain rfl : wr = w2 := hw2
      cases fb
      all_goals
        go_wp2_with fail
        go_roundw
        case rel => exact ⟨k + 1, by go_num, hlt, hM⟩
        case measure => simp [intOf]; omega
    · obtain rfl : k = xs.length := by omega
      go_wp2_with fail
      go_ret
      exact ⟨rfl, HM.out.trans hM.out⟩
end Go.Proofs.Ytcmgeiohcgngeaa
