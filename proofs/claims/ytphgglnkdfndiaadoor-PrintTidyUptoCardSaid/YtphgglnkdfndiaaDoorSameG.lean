/-
  Are two atoms, two rules the same? Both answers.
-/
import Derived.Test.YtphgglnkdfndiaaDoorSame
namespace Go.Proofs.YtphgglnkdfndiaaDoor
open Go Go.RowKit Go.Mine
set_option linter.unusedVariables false
set_option maxHeartbeats 4000000
set_option maxRecDepth 100000

theorem toList_inj {s t : ByteArray} (h : s.toList = t.toList) : s = t := by
  rw [ByteArray.toList_eq, ByteArray.toList_eq] at h
  exact ByteArray.ext (Array.ext' h)
theorem toList_beq {s t : ByteArray} (h : s ≠ t) : (s.toList == t.toList) = false := by
  rw [beq_eq_false_iff_ne]; exact fun e => h (toList_inj e)
theorem int_bne {a b : Nat} (h : a ≠ b) : ((a : Int) != (b : Int)) = true := by
  rw [bne_iff_ne]; omega
theorem int_beq {a b : Nat} (h : a ≠ b) : ((a : Int) == (b : Int)) = false := by
  rw [beq_eq_false_iff_ne]; omega
theorem tm_beq {a b : Int} {s t : ByteArray} (h : (⟨a, s⟩ : Tm) ≠ ⟨b, t⟩) : (a == b && s.toList == t.toList) = false := by
  rw [Bool.and_eq_false_iff]
  by_cases ha : a = b
  · right
    subst ha
    exact toList_beq (fun e => h (by rw [e]))
  · left; simpa using ha
theorem tm_diff {a b : Int} {s t : ByteArray} (h : (⟨a, s⟩ : Tm) ≠ ⟨b, t⟩) (w : World) : (binOp .neq 42 (.agg #[.int .i64 a, .string s]) (.agg #[.int .i64 b, .string t])).run Tryd.prog w = .ok (.bool true) w := by
  rw [tm_neql, tm_beq h]; rfl
theorem tm_eqd {a b : Int} {s t : ByteArray} (h : (⟨a, s⟩ : Tm) ≠ ⟨b, t⟩) (w : World) : (binOp .eql 42 (.agg #[.int .i64 a, .string s]) (.agg #[.int .i64 b, .string t])).run Tryd.prog w = .ok (.bool false) w := by
  rw [tm_eql, tm_beq h]
theorem tm_eqs (a : Int) (s : ByteArray) (w : World) : (binOp .eql 42 (.agg #[.int .i64 a, .string s]) (.agg #[.int .i64 a, .string s])).run Tryd.prog w = .ok (.bool true) w := by
  rw [tm_eql]; simp
theorem take_ne {α : Type} {ts us : List α} {k : Nat} (h1 : k < ts.length) (h2 : k < us.length) (h : ts[k] ≠ us[k]) : ts ≠ us := by
  intro e; subst e; exact h rfl
theorem take_more {α : Type} {ts us : List α} {k : Nat} (h1 : k < ts.length) (h2 : k < us.length) (ht : ts.take k = us.take k) (h : ts[k] = us[k]) : ts.take (k + 1) = us.take (k + 1) := by
  rw [List.take_succ_eq_append_getElem h1, List.take_succ_eq_append_getElem h2, ht, h]
theorem take_all {α : Type} {ts us : List α} {k : Nat} (h1 : ts.length = k) (h2 : us.length = k) (ht : ts.take k = us.take k) : ts = us := by
  rw [List.take_of_length_le (by omega), List.take_of_length_le (by omega)] at ht; exact ht
/-- an answer: true just where the two are the same -/
def SayEq {α : Type} (a b : α) (w : World) (e : Ending) (w' : World) : Prop := ∃ t : Bool, e = .returned (.bool t) ∧ (t = true ↔ a = b) ∧ Mod (fun _ => False) w w'

theorem SameAtom_any (p q : ByteArray) (ts us : List Tm) (s1 s2 : Value) (w : World) (h1 : TsAt w s1 ts) (h2 : TsAt w s2 us) (hn : ts.length < 2 ^ 30) (hn2 : us.length < 2 ^ 30) :
    Calls Tryd.prog 50 #[.agg #[.string p, s1], .agg #[.string q, s2]] w (SayEq (⟨p, ts⟩ : Am) ⟨q, us⟩ w) := by
  obtain ⟨a1, c1, rfl, hr1⟩ := h1
  obtain ⟨a2, c2, rfl, hr2⟩ := h2
  have hm0 : Mod (fun _ => False) w ((w.alloc (.cells #[.string p, .slice a1 ts.length c1] 35)).alloc (.cells #[.string q, .slice a2 us.length c2] 35)) := ((Mod.refl _ w).alloc _).alloc _
  have d1 : ((w.alloc (.cells #[.string p, .slice a1 ts.length c1] 35)).alloc (.cells #[.string q, .slice a2 us.length c2] 35)).cell? ⟨w.heap.size, 1, none⟩ = some (.slice a1 ts.length c1) := cell_old (cell_new rfl)
  have d2 : ((w.alloc (.cells #[.string p, .slice a1 ts.length c1] 35)).alloc (.cells #[.string q, .slice a2 us.length c2] 35)).cell? ⟨w.heap.size + 1, 1, none⟩ = some (.slice a2 us.length c2) := cell_new rfl (by simp)
  have HR1 := Lib.hid hr1; have HR2 := Lib.hid hr2
  clear hr1 hr2
  by_cases hp : p = q
  · subst hp
    by_cases hl : ts.length = us.length
    · go_enter Tryd.func50, Tryd.ntmps50
      have hl' : us.length = ts.length := hl.symm
      rw [hl'] at d1 d2 hm0 ⊢
      have HL := Lib.hid hl
      clear hl hl'
      go_wp2_with fail
      generalize ((w.alloc (.cells #[.string p, .slice a1 ts.length c1] 35)).alloc (.cells #[.string p, .slice a2 ts.length c2] 35)) = w0 at *
      have HM0 := Lib.hid hm0; have HD1 := Lib.hid d1; have HD2 := Lib.hid d2
      clear hm0 d1 d2
      go_loopw [5] (fun iv wr => ∃ k : Nat, iv = .int .i64 k ∧ k ≤ ts.length ∧ Hid (ts.take k = us.take k) ∧ Hid (Mod (fun _ => False) w0 wr)) (fun iv _ => ts.length - (intOf iv).toNat)
      case atStart => exact ⟨0, rfl, Nat.zero_le _, Lib.hid rfl, Lib.hid (Mod.refl _ w0)⟩
      case round =>
        obtain ⟨k, rfl, hk, hT, hM⟩ := hrel
        have e1 := hM.out.cell HD1.out id
        have e2 := hM.out.cell HD2.out id
        by_cases hlt : k < ts.length
        · have hlt2 : k < us.length := by have := HL.out; omega
          obtain ⟨b1, o1, rfl, x0, x1⟩ := rd_cell2 (HR1.out.mod (HM0.out.trans hM.out) (fun _ _ => id)) hlt
          obtain ⟨b2, o2, rfl, y0, y1⟩ := rd_cell2 (HR2.out.mod (HM0.out.trans hM.out) (fun _ _ => id)) hlt2
          have HN := Lib.hid (fun h => take_ne hlt hlt2 h)
          have HMo := Lib.hid (fun h => take_more hlt hlt2 hT.out h)
          generalize ts[k] = t at *
          generalize us[k] = u at *
          clear hlt2
          obtain ⟨tk, tx⟩ := t
          obtain ⟨uk, ux⟩ := u
          simp only at *
          by_cases he : (⟨tk, tx⟩ : Tm) = ⟨uk, ux⟩
          · cases he
            have hq := tm_same tk tx
            go_wp2_with fail
            refine wp_region_ord (fun w' => (w'.cell? ⟨w.heap.size, 1, none⟩ = some (.slice (some ⟨b1, o1, none⟩) ts.length c1) ∧ w'.cell? ⟨w.heap.size + 1, 1, none⟩ = some (.slice (some ⟨b2, o2, none⟩) ts.length c2)) ∧ (w'.cell? ⟨b1, o1 + k * 2, none⟩ = some (.int .i64 tk) ∧ w'.cell? ⟨b1, o1 + k * 2 + 1, none⟩ = some (.string tx)) ∧ (w'.cell? ⟨b2, o2 + k * 2, none⟩ = some (.int .i64 tk) ∧ w'.cell? ⟨b2, o2 + k * 2 + 1, none⟩ = some (.string tx))) [(0, 0), (1, 1), (0, 2), (0, 3), (1, 4), (0, 5), (1, 6), (0, 7), (0, 8), (1, 9), (0, 10)] (by kernel_rfl) (by kernel_rfl) ?_
            go_wp2_with (first
              | (refine ord_pure rfl rfl rfl (fun K hK => ?_); go_big_quiet_op; refine hK _ ?_; clear hK K)
                                                                | (refine ord_skip rfl rfl ?_; simp only [Act.put, List.setIfInBounds_toArray, List.set_cons_zero, List.set_cons_succ])
                                                                | (refine ord_held rfl rfl rfl (⟨⟨by simpa using e1, by simpa using e2⟩, ⟨by simpa using x0, by simpa using x1⟩, ⟨by simpa using y0, by simpa using y1⟩⟩) (fun K hK => ?_); apply Exists.intro; refine ⟨fun w' hs => ?_, hK _ ?_⟩; (revert hs; dsimp only; (try simp only [and_imp]); intros; go_simp; rfl); clear hK K)
                                                                | (refine ord_keep rfl rfl (⟨⟨by simpa using e1, by simpa using e2⟩, ⟨by simpa using x0, by simpa using x1⟩, ⟨by simpa using y0, by simpa using y1⟩⟩) (fun K hK => ?_))
                                                                | (refine ord_drop rfl rfl (fun K hK => ?_))
                                                                | (refine ord_nil ?_))
            go_roundw
            case rel => exact ⟨k + 1, by go_num, hlt, Lib.hid (HMo.out trivial), Lib.hid hM.out.drew⟩
            case measure => simp [intOf]; omega
          · have hq := tm_diff he
            go_wp2_with fail
            refine wp_region_ord (fun w' => (w'.cell? ⟨w.heap.size, 1, none⟩ = some (.slice (some ⟨b1, o1, none⟩) ts.length c1) ∧ w'.cell? ⟨w.heap.size + 1, 1, none⟩ = some (.slice (some ⟨b2, o2, none⟩) ts.length c2)) ∧ (w'.cell? ⟨b1, o1 + k * 2, none⟩ = some (.int .i64 tk) ∧ w'.cell? ⟨b1, o1 + k * 2 + 1, none⟩ = some (.string tx)) ∧ (w'.cell? ⟨b2, o2 + k * 2, none⟩ = some (.int .i64 uk) ∧ w'.cell? ⟨b2, o2 + k * 2 + 1, none⟩ = some (.string ux))) [(0, 0), (1, 1), (0, 2), (0, 3), (1, 4), (0, 5), (1, 6), (0, 7), (0, 8), (1, 9), (0, 10)] (by kernel_rfl) (by kernel_rfl) ?_
            go_wp2_with (first
              | (refine ord_pure rfl rfl rfl (fun K hK => ?_); go_big_quiet_op; refine hK _ ?_; clear hK K)
                                                                | (refine ord_skip rfl rfl ?_; simp only [Act.put, List.setIfInBounds_toArray, List.set_cons_zero, List.set_cons_succ])
                                                                | (refine ord_held rfl rfl rfl (⟨⟨by simpa using e1, by simpa using e2⟩, ⟨by simpa using x0, by simpa using x1⟩, ⟨by simpa using y0, by simpa using y1⟩⟩) (fun K hK => ?_); apply Exists.intro; refine ⟨fun w' hs => ?_, hK _ ?_⟩; (revert hs; dsimp only; (try simp only [and_imp]); intros; go_simp; rfl); clear hK K)
                                                                | (refine ord_keep rfl rfl (⟨⟨by simpa using e1, by simpa using e2⟩, ⟨by simpa using x0, by simpa using x1⟩, ⟨by simpa using y0, by simpa using y1⟩⟩) (fun K hK => ?_))
                                                                | (refine ord_drop rfl rfl (fun K hK => ?_))
                                                                | (refine ord_nil ?_))
            go_ret
            exact ⟨false, rfl, ⟨fun h => (by cases h), fun h => absurd (by cases h; rfl) (HN.out he)⟩, (HM0.out.trans hM.out).drew⟩
        · obtain rfl : k = ts.length := by omega
          go_wp2_with fail
          go_ret
          exact ⟨true, rfl, ⟨fun _ => (by rw [take_all rfl HL.out.symm hT.out]), fun _ => rfl⟩, HM0.out.trans hM.out⟩
    · have hlb := int_bne hl
      go_enter Tryd.func50, Tryd.ntmps50
      go_wp2_with fail
      go_ret
      exact ⟨false, rfl, ⟨fun h => (by cases h), fun h => absurd (by cases h; rfl) hl⟩, hm0⟩
  · have hpb := toList_beq hp
    go_enter Tryd.func50, Tryd.ntmps50
    go_wp2_with fail
    go_ret
    exact ⟨false, rfl, ⟨fun h => (by cases h), fun h => absurd (by cases h; rfl) hp⟩, hm0⟩
theorem EqualTs_any (ts us : List Tm) (s1 s2 : Value) (w : World) (h1 : TsAt w s1 ts) (h2 : TsAt w s2 us) (hn : ts.length < 2 ^ 30) (hn2 : us.length < 2 ^ 30) :
    Calls Tryd.prog 71 #[s1, s2] w (SayEq ts us w) := by
  obtain ⟨a1, c1, rfl, hr1⟩ := h1
  obtain ⟨a2, c2, rfl, hr2⟩ := h2
  have HR1 := Lib.hid hr1; have HR2 := Lib.hid hr2
  clear hr1 hr2
  by_cases hl : ts.length = us.length
  · go_enter Tryd.func71, Tryd.ntmps71
    have hl' : us.length = ts.length := hl.symm
    rw [hl']
    have HL := Lib.hid hl
    clear hl hl'
    go_wp2_with fail
    go_loopw [13] (fun iv wr => ∃ k : Nat, iv = .int .i64 k ∧ k ≤ ts.length ∧ Hid (ts.take k = us.take k) ∧ Hid (Mod (fun _ => False) w wr)) (fun iv _ => ts.length - (intOf iv).toNat)
    case atStart => exact ⟨0, rfl, Nat.zero_le _, Lib.hid rfl, Lib.hid (Mod.refl _ w)⟩
    case round =>
      obtain ⟨k, rfl, hk, hT, hM⟩ := hrel
      by_cases hlt : k < ts.length
      · have hlt2 : k < us.length := by have := HL.out; omega
        obtain ⟨b1, o1, rfl, x0, x1⟩ := rd_cell2 (HR1.out.mod hM.out (fun _ _ => id)) hlt
        obtain ⟨b2, o2, rfl, y0, y1⟩ := rd_cell2 (HR2.out.mod hM.out (fun _ _ => id)) hlt2
        have HN := Lib.hid (fun h => take_ne hlt hlt2 h)
        have HMo := Lib.hid (fun h => take_more hlt hlt2 hT.out h)
        generalize ts[k] = t at *
        generalize us[k] = u at *
        clear hlt2
        obtain ⟨tk, tx⟩ := t
        obtain ⟨uk, ux⟩ := u
        simp only at *
        by_cases he : (⟨tk, tx⟩ : Tm) = ⟨uk, ux⟩
        · cases he
          have hq := tm_same tk tx
          go_wp2_with fail
          refine wp_region_ord (fun w' => (w'.cell? ⟨b1, o1 + k * 2, none⟩ = some (.int .i64 tk) ∧ w'.cell? ⟨b1, o1 + k * 2 + 1, none⟩ = some (.string tx)) ∧ (w'.cell? ⟨b2, o2 + k * 2, none⟩ = some (.int .i64 tk) ∧ w'.cell? ⟨b2, o2 + k * 2 + 1, none⟩ = some (.string tx))) [(0, 0), (0, 1), (0, 2), (1, 3), (0, 4), (0, 5), (0, 6), (1, 7), (0, 8)] (by kernel_rfl) (by kernel_rfl) ?_
          go_wp2_with (first
            | (refine ord_pure rfl rfl rfl (fun K hK => ?_); go_big_quiet_op; refine hK _ ?_; clear hK K)
                                                                | (refine ord_skip rfl rfl ?_; simp only [Act.put, List.setIfInBounds_toArray, List.set_cons_zero, List.set_cons_succ])
                                                                | (refine ord_held rfl rfl rfl (⟨⟨by simpa using x0, by simpa using x1⟩, ⟨by simpa using y0, by simpa using y1⟩⟩) (fun K hK => ?_); apply Exists.intro; refine ⟨fun w' hs => ?_, hK _ ?_⟩; (revert hs; dsimp only; (try simp only [and_imp]); intros; go_simp; rfl); clear hK K)
                                                                | (refine ord_keep rfl rfl (⟨⟨by simpa using x0, by simpa using x1⟩, ⟨by simpa using y0, by simpa using y1⟩⟩) (fun K hK => ?_))
                                                                | (refine ord_drop rfl rfl (fun K hK => ?_))
                                                                | (refine ord_nil ?_))
          go_roundw
          case rel => exact ⟨k + 1, by go_num, hlt, Lib.hid (HMo.out trivial), Lib.hid hM.out.drew⟩
          case measure => simp [intOf]; omega
        · have hq := tm_diff he
          go_wp2_with fail
          refine wp_region_ord (fun w' => (w'.cell? ⟨b1, o1 + k * 2, none⟩ = some (.int .i64 tk) ∧ w'.cell? ⟨b1, o1 + k * 2 + 1, none⟩ = some (.string tx)) ∧ (w'.cell? ⟨b2, o2 + k * 2, none⟩ = some (.int .i64 uk) ∧ w'.cell? ⟨b2, o2 + k * 2 + 1, none⟩ = some (.string ux))) [(0, 0), (0, 1), (0, 2), (1, 3), (0, 4), (0, 5), (0, 6), (1, 7), (0, 8)] (by kernel_rfl) (by kernel_rfl) ?_
          go_wp2_with (first
            | (refine ord_pure rfl rfl rfl (fun K hK => ?_); go_big_quiet_op; refine hK _ ?_; clear hK K)
                                                                | (refine ord_skip rfl rfl ?_; simp only [Act.put, List.setIfInBounds_toArray, List.set_cons_zero, List.set_cons_succ])
                                                                | (refine ord_held rfl rfl rfl (⟨⟨by simpa using x0, by simpa using x1⟩, ⟨by simpa using y0, by simpa using y1⟩⟩) (fun K hK => ?_); apply Exists.intro; refine ⟨fun w' hs => ?_, hK _ ?_⟩; (revert hs; dsimp only; (try simp only [and_imp]); intros; go_simp; rfl); clear hK K)
                                                                | (refine ord_keep rfl rfl (⟨⟨by simpa using x0, by simpa using x1⟩, ⟨by simpa using y0, by simpa using y1⟩⟩) (fun K hK => ?_))
                                                                | (refine ord_drop rfl rfl (fun K hK => ?_))
                                                                | (refine ord_nil ?_))
          go_ret
          exact ⟨false, rfl, ⟨fun h => (by cases h), fun h => absurd h (HN.out he)⟩, hM.out.drew⟩
      · obtain rfl : k = ts.length := by omega
        go_wp2_with fail
        go_ret
        exact ⟨true, rfl, ⟨fun _ => take_all rfl HL.out.symm hT.out, fun _ => rfl⟩, hM.out⟩
  · have hlb := int_bne hl
    go_enter Tryd.func71, Tryd.ntmps71
    go_wp2_with fail
    go_ret
    exact ⟨false, rfl, ⟨fun h => (by cases h), fun h => absurd (by rw [h]) hl⟩, Mod.refl _ _⟩
end Go.Proofs.YtphgglnkdfndiaaDoor
