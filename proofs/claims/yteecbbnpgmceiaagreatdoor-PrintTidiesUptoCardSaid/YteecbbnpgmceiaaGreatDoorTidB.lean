/-
  A sorted set of rules beside their texts: where a text stands; a new set; one put in.
-/
import Derived.Test.YteecbbnpgmceiaaGreatDoorTidA
import Derived.Test.YteecbbnpgmceiaaGreatDoorNmG
import Derived.Lib.Overlaps
import Derived.Laws.Externs
namespace Go.Proofs.YteecbbnpgmceiaaGreatDoor
open Go Go.RowKit Go.Mine
set_option linter.unusedVariables false
set_option maxHeartbeats 4000000
set_option maxRecDepth 100000

theorem find_any (B : Nat) (xs : List Wv) (a : Option Addr) (c : Nat) (t : Wv) (w : World) (hS : SetAt w B a xs.length c) (hR : Rd w a (wnsC xs)) (hn : xs.length ≤ 2 ^ 40) (hs : SortT (tx xs)) :
    Calls Tryz.prog 86 #[.pointer (some ⟨B, 0, none⟩), wnV t] w fun e w' => e = .returned (.tuple #[.int .i64 (lbT (tx xs) t.1.1), .bool (hasT (tx xs) t.1.1)]) ∧ Mod (fun _ => False) w w' := by
  have HC := Lib.hid (fun (W : World) (m : Mod (fun _ => False) w W) => search_any B a xs.length c xs a c t W (hS.trans' m) (hR.mod m (fun _ _ => id)) hn hs)
  unfold wnV cmpF at HC
  unfold wnV
  generalize t.1.1 = tt at *
  generalize t.1.2.head.pred = tp at *
  generalize t.2.1 = ts at *
  generalize t.2.2 = tbv at *
  generalize lbT (tx xs) tt = L at *
  generalize hasT (tx xs) tt = Q at *
  have hm : Mod (fun _ => False) w (w.alloc (.cells #[.string tt, .string tp, ts, tbv] 83)) := (Mod.refl _ w).alloc _
  have hb0 := heap_alloc_new w (.cells #[.string tt, .string tp, ts, tbv] 83)
  have x0 := cell_at (j := 0) hb0 rfl; have x1 := cell_at (j := 1) hb0 rfl; have x2 := cell_at (j := 2) hb0 rfl; have x3 := cell_at (j := 3) hb0 rfl
  have s1 := cell_at (j := 1) (hm.at hS id) rfl
  have HM := Lib.hid hm
  clear hm hS hR hs hb0
  go_enter Tryz.func86, Tryz.ntmps86
  go_wp2_with fail
  refine wp_region_ord (fun w' => w'.cell? ⟨B, 1, none⟩ = some (.slice a xs.length c) ∧ (w'.cell? ⟨w.heap.size, 0, none⟩ = some (.string tt) ∧ w'.cell? ⟨w.heap.size, 1, none⟩ = some (.string tp) ∧ w'.cell? ⟨w.heap.size, 2, none⟩ = some ts ∧ w'.cell? ⟨w.heap.size, 3, none⟩ = some tbv)) [(0, 0), (0, 1), (0, 2), (1, 3), (1, 4), (0, 5), (0, 6), (3, 7), (0, 8), (0, 9), (0, 10), (0, 11)] (by kernel_rfl) (by kernel_rfl) ?_
  go_wp2_with (first
    | (refine ord_pure rfl rfl rfl (fun K hK => ?_); go_big_quiet_op; refine hK _ ?_; clear hK K)
                                                                | (refine ord_skip rfl rfl ?_; simp only [Act.put, List.setIfInBounds_toArray, List.set_cons_zero, List.set_cons_succ])
                                                                | (refine ord_held rfl rfl rfl (⟨s1, x0, x1, x2, x3⟩) (fun K hK => ?_); apply Exists.intro; refine ⟨fun w' hs => ?_, hK _ ?_⟩; (revert hs; dsimp only; (try simp only [and_imp]); intros; go_simp; rfl); clear hK K)
                                                                | (refine ord_keep rfl rfl (⟨s1, x0, x1, x2, x3⟩) (fun K hK => ?_))
                                                                | (refine ord_drop rfl rfl (fun K hK => ?_))
                                                                | (refine ord_nil ?_))
  refine (HC.out _ HM.out.drew).mono ?_
  rintro e w' ⟨rfl, hM2⟩
  have HM2 := Lib.hid (HM.out.drew.trans hM2)
  clear hM2 x0 x1 x2 x3 s1
  go_wp2_with (first
    | (refine ord_pure rfl rfl rfl (fun K hK => ?_); go_big_quiet_op; refine hK _ ?_; clear hK K)
                                                                | (refine ord_skip rfl rfl ?_; simp only [Act.put, List.setIfInBounds_toArray, List.set_cons_zero, List.set_cons_succ])
                                                                | (refine ord_held rfl rfl rfl (trivial) (fun K hK => ?_); apply Exists.intro; refine ⟨fun w' hs => ?_, hK _ ?_⟩; (revert hs; dsimp only; (try simp only [and_imp]); intros; go_simp; rfl); clear hK K)
                                                                | (refine ord_keep rfl rfl (trivial) (fun K hK => ?_))
                                                                | (refine ord_drop rfl rfl (fun K hK => ?_))
                                                                | (refine ord_nil ?_))
  exact bodyPost_ret (results_tmp2 rfl _ _ _) rfl ⟨rfl, HM2.out⟩
/-! a new set -/
/-- what stands in a row of rules beside their texts is of one cell each -/
theorem wnsC_one (xs : List Wv) (h : ∀ x ∈ xs, x.2.1.oneCell' = true ∧ x.2.2.oneCell' = true) : ∀ u ∈ wnsC xs, u.oneCell' = true := by
  intro u hu
  unfold wnsC at hu
  obtain ⟨x, hx, hu⟩ := List.mem_flatMap.1 hu
  have := h x hx
  unfold wnC at hu
  simp only [List.mem_cons, List.not_mem_nil, or_false] at hu
  rcases hu with rfl | rfl | rfl | rfl
  · rfl
  · rfl
  · exact this.1
  · exact this.2
theorem cloneW_any (xs : List Wv) (a : Option Addr) (c : Nat) (w : World) (ht : Rd w a (wnsC xs)) (hn : xs.length < 2 ^ 40) (h1 : ∀ x ∈ xs, x.2.1.oneCell' = true ∧ x.2.2.oneCell' = true) :
    Calls Tryz.prog 78 #[.slice a xs.length c] w fun e w' => ∃ a c, e = .returned (.slice a xs.length c) ∧ Mine.Own w' 83 4 a xs.length c (wnsC xs) ∧ Mod (fun _ => False) w w' ∧ (∀ b, blk a = some b → w.heap.size ≤ b) := by
  have q22 : ∀ (w : World) (a : Option Addr) (n c n' c' : Nat), (binOp .eql 142 (.slice a n c) (.slice none n' c')).run Tryz.prog w = .ok (.bool a.isNone) w := fun w a n c n' c' => Lib.run_eql_slice_nil w _ _ a n c n' c' Tryz.underlying142
  cases a with
  | none =>
    have hts : xs = [] := by
      cases xs with
      | nil => rfl
      | cons t ts => obtain ⟨b, o, e, _⟩ := ht 0 _ rfl; cases e
    subst hts
    clear ht
    go_enter Tryz.func78, Tryz.ntmps78
    go_wp2_with fail
    go_ret
    exact ⟨none, 0, rfl, Mine.Own.nil _ _ _, Mod.refl _ _, by simp⟩
  | some ad =>
    have HR := Lib.hid ht; clear ht
    have H1 := Lib.hid h1; clear h1
    go_enter Tryz.func78, Tryz.ntmps78
    go_wp2_with (at_builtin; refine wpL_append rfl (.tmp 5) (.tmp 6) 142 142 rfl tiWn rfl (own_madeg w 83 4 w.heap.size rfl) rfl (Src.ofRd tiWn.ht xs.length c (HR.out.mod ((Mod.refl (fun _ => False) w).alloc _) (fun _ _ => id)) (wnsC_length xs) (wnsC_one xs H1.out)) (by omega) (by unfold maxLen; omega) ?_; intro a2 c2 w2 hO2 hG2 _
                 simp only [Nat.zero_add, List.nil_append] at hO2
                 simp only [Nat.zero_add]
                 have HO2 := Lib.hid hO2; have HG2 := Lib.hid hG2; clear hO2 hG2)
    go_ret
    refine ⟨a2, c2, rfl, HO2.out, grow_mod0 ((Mod.refl (fun _ => False) w).alloc _) HG2.out (Nat.le_refl _), fun b hb => ?_⟩
    rcases HG2.out.pos with e | ⟨g, e, hg⟩
    · rw [e] at hb; simp at hb; omega
    · rw [e] at hb; cases hb; simp at hg; omega
theorem cloneN_any (w : World) : Calls Tryz.prog 78 #[.slice none 0 0] w fun e w' => e = .returned (.slice none 0 0) ∧ w = w' := by
  have q22 : ∀ (w : World) (a : Option Addr) (n c n' c' : Nat), (binOp .eql 142 (.slice a n c) (.slice none n' c')).run Tryz.prog w = .ok (.bool a.isNone) w := fun w a n c n' c' => Lib.run_eql_slice_nil w _ _ a n c n' c' Tryz.underlying142
  go_enter Tryz.func78, Tryz.ntmps78
  go_wp2_with fail
  go_ret
  exact ⟨rfl, rfl⟩
theorem insSort0_any (cb : Value) (w : World) : Calls Tryz.prog 165 #[.slice none 0 0, .int .i64 0, .int .i64 0, cb] w fun e w' => (∃ v, e = .returned v) ∧ w = w' := by
  go_enter Tryz.func165, Tryz.ntmps165
  go_wp2_with fail
  go_loopw [8, 9] (fun iv _ wr => iv = .int .i64 1 ∧ Hid (w = wr)) (fun _ _ _ => 0)
  case atStart => exact ⟨rfl, Lib.hid rfl⟩
  case round =>
    obtain ⟨rfl, hw⟩ := hrel
    go_wp2_with fail
    go_end0
    exact ⟨⟨_, rfl⟩, hw.out⟩
theorem stable0_any (cb : Value) (w : World) : Calls Tryz.prog 134 #[.slice none 0 0, .int .i64 0, cb] w fun e w' => (∃ v, e = .returned v) ∧ w = w' := by
  go_enter Tryz.func134, Tryz.ntmps134
  go_wp2_with fail
  go_loopw [7, 8] (fun a b wr => a = .int .i64 0 ∧ b = .int .i64 20 ∧ Hid (w = wr)) (fun _ _ _ => 0)
  case atStart => exact ⟨rfl, rfl, Lib.hid rfl⟩
  case round =>
    obtain ⟨rfl, rfl, hw⟩ := hrel
    go_wp2_with fail
    refine (insSort0_any cb _).mono ?_
    rintro e w' ⟨⟨v, rfl⟩, hw2⟩
    have HW : Hid (w = w') := Lib.hid (hw.out.trans hw2)
    clear hw2 hw
    go_wp2_with fail
    go_loopw [6, 7, 8, 9] (fun a _ _ _ wr => a = .int .i64 20 ∧ Hid (w = wr)) (fun _ _ _ _ _ => 0)
    case atStart => exact ⟨rfl, HW⟩
    case round =>
      obtain ⟨rfl, hw⟩ := hrel
      go_wp2_with fail
      go_end0
      exact ⟨⟨_, rfl⟩, hw.out⟩
theorem sort0_any (cb : Value) (w : World) : Calls Tryz.prog 79 #[.slice none 0 0, cb] w fun e w' => (∃ v, e = .returned v) ∧ w = w' := by
  go_enter Tryz.func79, Tryz.ntmps79
  go_wp2_with fail
  refine (stable0_any cb _).mono ?_
  rintro e w' ⟨⟨v, rfl⟩, rfl⟩
  go_wp2_with fail
  go_end0
  exact ⟨⟨_, rfl⟩, rfl⟩
theorem compact0_any (cb : Value) (w : World) : Calls Tryz.prog 81 #[.slice none 0 0, cb] w fun e w' => e = .returned (.slice none 0 0) ∧ w = w' := by
  go_enter Tryz.func81, Tryz.ntmps81
  go_wp2
  go_ret
  exact ⟨rfl, rfl⟩
theorem newSet_any (w : World) : Calls Tryz.prog 37 #[fnO, .slice none 0 0] w fun e w' => ∃ B, e = .returned (.pointer (some ⟨B, 0, none⟩)) ∧ SetAt w' B none 0 0 ∧ Mod (fun _ => False) w w' ∧ w.heap.size ≤ B := by
  unfold fnO
  have HS := Lib.hid sort0_any; have HC := Lib.hid compact0_any
  have hb := heap_alloc_new w (.cells #[.func (.func 38) #[] #[], .slice none 0 0] 145)
  have hm : Mod (fun _ => False) w (w.alloc (.cells #[.func (.func 38) #[] #[], .slice none 0 0] 145)) := (Mod.refl _ w).alloc _
  have s1 := cell_at (j := 1) hb rfl
  have f1 := frozen_at (j := 1) hb
  have HB := Lib.hid hb; have HM := Lib.hid hm
  clear hb hm
  go_enter Tryz.func37, Tryz.ntmps37
  go_wp2_with (first
    | (go_at_call 78; refine (cloneN_any _).mono ?_; rintro e w' ⟨rfl, rfl⟩)
    | (go_at_call 79; refine (HS.out _ _).mono ?_; rintro e w' ⟨⟨v, rfl⟩, rfl⟩)
    | (go_at_call 81; refine (HC.out _ _).mono ?_; rintro e w' ⟨rfl, rfl⟩))
  go_ret
  exact ⟨_, rfl, HB.out, HM.out, Nat.le_refl _⟩
end Go.Proofs.YteecbbnpgmceiaaGreatDoor
