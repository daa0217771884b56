/-
  ints, spoilt, walked.
-/
import Derived.Test.YtcmgeiohcgngeaaSymT5
namespace Go.Proofs.Ytcmgeiohcgngeaa
open Go Go.RowKit Go.Mine Go.Maps
set_option linter.unusedVariables false
set_option maxHeartbeats 8000000
set_option maxRecDepth 100000

theorem ints_same {w : World} {a1 a2 : Option Addr} {c1 c2 : Nat} {l : List Nat} (h1 : Mine.Own w 3 1 a1 l.length c1 (nums l)) (h2 : Mine.Own w 3 1 a2 l.length c2 (nums l)) (hl : l.length < 2 ^ 40) :
    Calls Try.prog 18 #[.slice a1 l.length c1, .slice a2 l.length c2] w fun e w' => e = .returned (.bool true) ∧ Mod (fun _ => False) w w' := by
  have HA := Lib.hid h1; have HB := Lib.hid h2
  clear h1 h2
  go_enter Try.func18, Try.ntmps18
  go_wp2_with fail
  go_loopw [5] (fun i wr => ∃ k : Nat, k ≤ l.length ∧ i = .int .i64 k ∧ Hid (Mod (fun _ => False) w wr)) (fun i _ => l.length - (intOf i).toNat)
  case atStart => exact ⟨0, Nat.zero_le _, rfl, Lib.hid (Mod.refl _ w)⟩
  case round =>
    obtain ⟨k, hk, rfl, hM⟩ := hrel
    by_cases hlt : k < l.length
    · have hg : l[k]? = some l[k] := List.getElem?_eq_getElem hlt
      obtain ⟨b1, rfl, x0⟩ := int_cell (HA.out.mod hM.out (fun _ _ => id)) hg
      obtain ⟨b2, rfl, y0⟩ := int_cell (HB.out.mod hM.out (fun _ _ => id)) hg
      clear hg
      generalize l[k] = v at *
      go_wp2_with fail
      refine wp_region_ord (fun w' => w'.cell? ⟨b1, k, none⟩ = some (.int .i64 (v : Nat)) ∧ w'.cell? ⟨b2, k, none⟩ = some (.int .i64 (v : Nat))) [(0, 0), (0, 1), (0, 2), (1, 3), (0, 4), (0, 5), (0, 6), (1, 7), (0, 8)] (by kernel_rfl) (by kernel_rfl) ?_
      go_wp2_with (first
        | (refine ord_pure rfl rfl rfl (fun K hK => ?_); go_big_quiet_op; refine hK _ ?_; clear hK K)
                                                                | (refine ord_skip rfl rfl ?_; simp only [Act.put, List.setIfInBounds_toArray, List.set_cons_zero, List.set_cons_succ])
                                                                | (refine ord_held rfl rfl rfl (⟨x0, y0⟩) (fun K hK => ?_); apply Exists.intro; refine ⟨fun w' hs => ?_, hK _ ?_⟩; (revert hs; dsimp only; (try simp only [and_imp]); intros; go_simp; rfl); clear hK K)
                                                                | (refine ord_keep rfl rfl (⟨x0, y0⟩) (fun K hK => ?_))
                                                                | (refine ord_drop rfl rfl (fun K hK => ?_))
                                                                | (refine ord_nil ?_))
      clear x0 y0
      go_roundw
      case rel => exact ⟨k + 1, hlt, by go_num, Lib.hid hM.out.drew⟩
      case measure => simp [intOf]; omega
    · obtain rfl : k = l.length := by omega
      go_wp2_with fail
      go_ret
      exact ⟨rfl, hM.out⟩
theorem spoilt_any {w : World} {a : Option Addr} {n c : Nat} {us : List Value} (h : Mine.Own w 3 1 a n c us) (hn : n < 2 ^ 40) :
    Calls Try.prog 20 #[.slice a n c] w fun e w' => e = .returned (.tuple #[]) ∧ Mod (fun b => blk a = some b) w w' := by
  have HA := Lib.hid h
  clear h
  go_enter Try.func20, Try.ntmps20
  go_wp2_with fail
  go_loopw [2] (fun i wr => ∃ k : Nat, k ≤ n ∧ i = .int .i64 k ∧ Hid (∃ vs, Mine.Own wr 3 1 a n c vs) ∧ Hid (Mod (fun b => blk a = some b) w wr)) (fun i _ => n - (intOf i).toNat)
  case atStart => exact ⟨0, Nat.zero_le _, rfl, Lib.hid ⟨_, HA.out⟩, Lib.hid (Mod.refl _ w)⟩
  case round =>
    obtain ⟨k, hk, rfl, hO, hM⟩ := hrel
    by_cases hlt : k < n
    · obtain ⟨vs, ho⟩ := hO.out
      obtain ⟨b, rfl⟩ := ho.atHead (by omega)
      have hlv := ho.1
      have hx : ∃ u, wr.cell? ⟨b, k, none⟩ = some u := by
        obtain ⟨b', o, e, hc⟩ := ho.rd k (vs[k]'(by omega)) (List.getElem?_eq_getElem (by omega))
        cases e
        rw [Nat.zero_add] at hc
        exact ⟨_, hc⟩
      obtain ⟨u, x0⟩ := hx
      have f0 : wr.frozen? ⟨b, k, none⟩ = false := ho.frozen (b := b) (o := k) rfl
      have HS := Lib.hid (ho.store k (.int .i64 (-7)))
      have HM2 := Lib.hid (hM.out.setCell (p := ⟨b, k, none⟩) (fun _ => rfl) (.int .i64 (-7)))
      clear ho hlv hM hO
      go_wp2_with fail
      go_roundw
      case rel => exact ⟨k + 1, hlt, by go_num, Lib.hid ⟨_, HS.out⟩, HM2⟩
      case measure => simp [intOf]; omega
    · obtain rfl : k = n := by omega
      go_wp2_with fail
      go_end0
      exact ⟨rfl, hM.out⟩
end Go.Proofs.Ytcmgeiohcgngeaa
