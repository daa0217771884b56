/-
  sibylref09.renamed: one term, the names so far, and one more.
-/
import Derived.Test.YtidgpcjnfkhjoaaDoorNumber
import Derived.Test.YtidgpcjnfkhjoaaDoorSame
namespace Go.Proofs.YtidgpcjnfkhjoaaDoor
open Go Go.RowKit Go.Mine
set_option linter.unusedVariables false
set_option maxHeartbeats 4000000
set_option maxRecDepth 100000

theorem tiS : TI Tryd.prog 111 9 1 16 := TI.mk' (z := .string ByteArray.empty) (by kernel_rfl) (by kernel_rfl) rfl (by omega)
theorem vN_cat (n : Nat) : (⟨#[86]⟩ : ByteArray) ++ ⟨(Lib.decDigits n).toArray⟩ = vN n := ba_cat [86] (Lib.decDigits n)
theorem place_at {x : ByteArray} {l : List ByteArray} {k : Nat} (h1 : k ≤ place x l) (hk : l[k]? = some x) : place x l = k := by
  rcases Nat.lt_or_ge k (place x l) with h | h
  · exact absurd rfl (place_before h hk)
  · omega
theorem place_past {x : ByteArray} {l : List ByteArray} {k : Nat} (h1 : k ≤ place x l) (hk : k < l.length) (hn : l[k] ≠ x) : k + 1 ≤ place x l := by
  rcases Nat.lt_or_ge k (place x l) with h | h
  · exact h
  · have e : place x l = k := by omega
    have := place_get (place_iff.1 (by rw [e]; exact hk))
    rw [e, List.getElem?_eq_getElem hk] at this
    exact absurd (Option.some.inj this) hn
theorem more_old {x : ByteArray} {l : List ByteArray} (h : place x l < l.length) : more l x = l := by unfold more; rw [if_pos h]
theorem more_new {x : ByteArray} {l : List ByteArray} (h : place x l = l.length) : more l x = l ++ [x] ∧ place x (l ++ [x]) = l.length := by
  have hn : x ∉ l := fun hm => by have := place_lt hm; omega
  exact ⟨by unfold more; rw [if_neg (by omega)], place_new hn⟩
theorem sts_get {l : List ByteArray} {k : Nat} (hk : k < l.length) : (sts l)[k]? = some (.string l[k]) := by simp [sts, hk]

theorem renamed_any (t : Tm) (ns : List ByteArray) (a : Option Addr) (c : Nat) (w : World) (ho : Mine.Own w 9 1 a ns.length c (sts ns)) (hn : ns.length < 2 ^ 30) :
    Calls Tryd.prog 72 #[tmV t, .slice a ns.length c] w fun e w' => ∃ a' c', e = .returned (.tuple #[tmV (nmTm ns t).1, .slice a' (nmTm ns t).2.length c']) ∧
      Mine.Own w' 9 1 a' (nmTm ns t).2.length c' (sts (nmTm ns t).2) ∧ Grow w a w' a' := by
  obtain ⟨tk, tx⟩ := t
  unfold nmTm tmV
  simp only
  have hb0 : ((w.alloc (.cells #[.int .i64 tk, .string tx] 76)).alloc (.cells #[.int .i64 0, .string ⟨#[]⟩] 76)).heap[w.heap.size]? = some (.cells #[.int .i64 tk, .string tx] 76 (0, 0)) := heap_two1 w _ _
  have hb1 : ((w.alloc (.cells #[.int .i64 tk, .string tx] 76)).alloc (.cells #[.int .i64 0, .string ⟨#[]⟩] 76)).heap[w.heap.size + 1]? = some (.cells #[.int .i64 0, .string ⟨#[]⟩] 76 (0, 0)) := heap_two2 w _ _
  have hm0 : Mod (fun _ => False) w ((w.alloc (.cells #[.int .i64 tk, .string tx] 76)).alloc (.cells #[.int .i64 0, .string ⟨#[]⟩] 76)) := ((Mod.refl _ w).alloc _).alloc _
  have hz0 : ((w.alloc (.cells #[.int .i64 tk, .string tx] 76)).alloc (.cells #[.int .i64 0, .string ⟨#[]⟩] 76)).heap.size = w.heap.size + 2 := by simp
  have HO := Lib.hid ho; clear ho
  by_cases hk : asIs tk
  · rw [if_pos hk]
    simp only
    have hcase : tk = 2 ∨ tk = 3 ∨ tk = 4 := hk
    clear hk
    rcases hcase with rfl | rfl | rfl
    all_goals
      go_enter Tryd.func72, Tryd.ntmps72
      go_wp2_with fail
      refine bodyPost_ret (v := .tuple #[.agg #[.int .i64 _, .string tx], .slice a ns.length c]) (by simp [results, Tryd.results72, go_sem]) rfl
        ⟨a, c, rfl, HO.out.mod (((Mod.refl (fun _ => False) w).alloc _).alloc _) (fun _ _ => id), Grow.pre0 (((Mod.refl (fun _ => False) w).alloc _).alloc _) (Grow.refl _ _)⟩
  · rw [if_neg hk]
    simp only
    have e2 : (tk == 2) = false := by simp; intro h; exact hk (.inl h)
    have e3 : (tk == 3) = false := by simp; intro h; exact hk (.inr (.inl h))
    have e4 : (tk == 4) = false := by simp; intro h; exact hk (.inr (.inr h))
    clear hk
    go_enter Tryd.func72, Tryd.ntmps72
    go_wp2_with fail
    generalize ((w.alloc (.cells #[.int .i64 tk, .string tx] 76)).alloc (.cells #[.int .i64 0, .string ⟨#[]⟩] 76)) = w0 at *
    have HB0 := Lib.hid hb0; have HB1 := Lib.hid hb1; have HM0 := Lib.hid hm0
    clear hb0 hb1 hm0
    go_loopw [6] (fun iv wr => ∃ k : Nat, iv = .int .i64 k ∧ k ≤ ns.length ∧ Hid (k ≤ place tx ns) ∧ Hid (Mod (fun _ => False) w0 wr)) (fun iv _ => ns.length - (intOf iv).toNat)
    case atStart => exact ⟨0, rfl, Nat.zero_le _, Lib.hid (Nat.zero_le _), Lib.hid (Mod.refl _ w0)⟩
    case round =>
      obtain ⟨k, rfl, hk, hp, hM⟩ := hrel
      have q0 := hM.out.at HB0.out id
      have q1 := hM.out.at HB1.out id
      have t0 := cell_at (j := 0) q0 rfl
      have t1 := cell_at (j := 1) q0 rfl
      have ft : wr.frozen? ⟨w.heap.size, 1, none⟩ = false := frozen_at q0
      have r0 := cell_at (j := 0) q1 rfl
      have r1 := cell_at (j := 1) q1 rfl
      have g0 : wr.frozen? ⟨w.heap.size + 1, 0, none⟩ = false := frozen_at q1
      have g1 : wr.frozen? ⟨w.heap.size + 1, 1, none⟩ = false := frozen_at q1
      have Q0 := Lib.hid q0; have Q1 := Lib.hid q1
      clear q0 q1
      by_cases hlt : k < ns.length
      · obtain ⟨b, o, rfl, hc⟩ := (HO.out.mod (HM0.out.trans hM.out) (fun _ _ => id)).rd k _ (sts_get hlt)
        by_cases heq : ns[k] = tx
        · rw [heq] at hc
          have hpk : place tx ns = k := place_at hp.out (by rw [List.getElem?_eq_getElem hlt, heq])
          have hmo := more_old (x := tx) (l := ns) (by omega)
          have HPK := Lib.hid hpk; have HMO := Lib.hid hmo
          clear hpk hmo heq
          have hIK := number_any (k + 1)
          have HN : Hid (∀ w, Calls Tryd.prog 124 #[.int .i64 ((k : Int) + 1)] w fun e w' => e = .returned (.string ⟨(Lib.decDigits (k + 1)).toArray⟩) ∧ Mod (fun _ => False) w w') := fun w => by
            have := number_any (k + 1) w (by omega)
            exact this
          have hle := decDigits_le (k + 1)
          have HV := Lib.hid (vN_cat (k + 1))
          clear hIK
          generalize Lib.decDigits (k + 1) = D at *
          have hno : ¬ 9223372036854775807 < 1 + D.length := by omega
          go_wp2_with fail
          refine wp_region_ord (fun w' => w'.cell? ⟨b, o + k, none⟩ = some (.string tx) ∧ w'.cell? ⟨w.heap.size, 1, none⟩ = some (.string tx)) [(0, 0), (0, 1), (0, 2), (1, 3), (0, 4), (1, 5), (0, 6)] (by kernel_rfl) (by kernel_rfl) ?_
          go_wp2_with (first
            | (refine ord_pure rfl rfl rfl (fun K hK => ?_); go_big_quiet_op; refine hK _ ?_; clear hK K)
                        | (refine ord_skip rfl rfl ?_; simp only [Act.put, List.setIfInBounds_toArray, List.set_cons_zero, List.set_cons_succ])
                        | (refine ord_held rfl rfl rfl (⟨by simpa using hc, by simpa using t1⟩) (fun K hK => ?_); apply Exists.intro; refine ⟨fun w' hs => ?_, hK _ ?_⟩; (revert hs; dsimp only; (try simp only [and_imp]); intros; go_simp; rfl); clear hK K)
                        | (refine ord_keep rfl rfl (⟨by simpa using hc, by simpa using t1⟩) (fun K hK => ?_))
                        | (refine ord_drop rfl rfl (fun K hK => ?_))
                        | (refine ord_nil ?_))
          clear t0 t1 ft r0 r1 g0 g1
          refine (HN.out _).mono ?_
          rintro e w2 ⟨rfl, hM2⟩
          have hM3 : Mod (fun _ => False) wr w2 := ((Mod.refl (fun _ => False) wr).drew).trans hM2
          have HM3 := Lib.hid (HM0.out.trans (hM.out.trans hM3))
          have q0 := hM3.at Q0.out (by first | exact id | (intro e; have := id _ e; omega))
          have q1 := hM3.at Q1.out (by first | exact id | (intro e; have := id _ e; omega))
          have t0 := cell_at (j := 0) q0 rfl
          have t1 := cell_at (j := 1) q0 rfl
          have ft : w2.frozen? ⟨w.heap.size, 1, none⟩ = false := frozen_at q0
          have r0 := cell_at (j := 0) q1 rfl
          have r1 := cell_at (j := 1) q1 rfl
          have g0 : w2.frozen? ⟨w.heap.size + 1, 0, none⟩ = false := frozen_at q1
          have g1 : w2.frozen? ⟨w.heap.size + 1, 1, none⟩ = false := frozen_at q1
          have Q2 := Lib.hid q1
          clear q0 q1 hM2 hM3 Q0 Q1 HN
          go_wp2_with fail
          have hm : Mod (fun k => k = w.heap.size ∨ k = w.heap.size + 1) w2 (((w2.setCell ⟨w.heap.size, 1, none⟩ (.string (⟨#[86]⟩ ++ ⟨D.toArray⟩))).setCell ⟨w.heap.size + 1, 0, none⟩ (.int .i64 tk)).setCell ⟨w.heap.size + 1, 1, none⟩ (.string (⟨#[86]⟩ ++ ⟨D.toArray⟩))) :=
            (((Mod.refl _ w2).setCell (p := ⟨w.heap.size, 1, none⟩) (fun _ => .inl rfl) _).setCell (p := ⟨w.heap.size + 1, 0, none⟩) (fun _ => .inr rfl) _).setCell (p := ⟨w.heap.size + 1, 1, none⟩) (fun _ => .inr rfl) _
          have hb2 := heap_setCell_at (j := 1) (.string (⟨#[86]⟩ ++ ⟨D.toArray⟩)) (heap_setCell_at (j := 0) (.int .i64 tk) (((Mod.refl (fun k => k = w.heap.size) w2).setCell (p := ⟨w.heap.size, 1, none⟩) (fun _ => rfl) (.string (⟨#[86]⟩ ++ ⟨D.toArray⟩))).at Q2.out (by omega)))
          have z0 := cell_at (j := 0) (u := .int .i64 tk) hb2 rfl
          have z1 := cell_at (j := 1) (u := .string (⟨#[86]⟩ ++ ⟨D.toArray⟩)) hb2 rfl
          generalize (((w2.setCell ⟨w.heap.size, 1, none⟩ (.string (⟨#[86]⟩ ++ ⟨D.toArray⟩))).setCell ⟨w.heap.size + 1, 0, none⟩ (.int .i64 tk)).setCell ⟨w.heap.size + 1, 1, none⟩ (.string (⟨#[86]⟩ ++ ⟨D.toArray⟩))) = W at *
          have hne := (fun b' hb' => by have := HO.out.lt b' hb'; exact (show b' ≠ w.heap.size ∧ b' ≠ w.heap.size + 1 by omega))
          exact bodyPost_ret (v := .tuple #[.agg #[.int .i64 tk, .string (⟨#[86]⟩ ++ ⟨D.toArray⟩)], .slice (some ⟨b, o, none⟩) ns.length c]) (by simp [results, Tryd.results72, go_sem, z0, z1]) rfl
            ⟨(some ⟨b, o, none⟩), _, by rw [HMO.out, HPK.out, ← HV.out]; (try rfl), by rw [HMO.out]; exact (HO.out.mod HM3.out (fun _ _ => id)).mod hm (fun b hb e => by have := hne b hb; omega), ⟨(Grow.pre0 HM3.out (Grow.refl _ _)).mod.step hm (fun i hi hs => by omega), (Grow.pre0 HM3.out (Grow.refl _ _)).pos⟩⟩
        · have HNE := Lib.hid (place_past hp.out hlt heq)
          have hb : (ns[k].toList == tx.toList) = false := by rw [baEq]; simpa using heq
          clear heq
          generalize ns[k] = y at *
          go_wp2_with fail
          refine wp_region_ord (fun w' => w'.cell? ⟨b, o + k, none⟩ = some (.string y) ∧ w'.cell? ⟨w.heap.size, 1, none⟩ = some (.string tx)) [(0, 0), (0, 1), (0, 2), (1, 3), (0, 4), (1, 5), (0, 6)] (by kernel_rfl) (by kernel_rfl) ?_
          go_wp2_with (first
            | (refine ord_pure rfl rfl rfl (fun K hK => ?_); go_big_quiet_op; refine hK _ ?_; clear hK K)
                        | (refine ord_skip rfl rfl ?_; simp only [Act.put, List.setIfInBounds_toArray, List.set_cons_zero, List.set_cons_succ])
                        | (refine ord_held rfl rfl rfl (⟨by simpa using hc, by simpa using t1⟩) (fun K hK => ?_); apply Exists.intro; refine ⟨fun w' hs => ?_, hK _ ?_⟩; (revert hs; dsimp only; (try simp only [and_imp]); intros; go_simp; rfl); clear hK K)
                        | (refine ord_keep rfl rfl (⟨by simpa using hc, by simpa using t1⟩) (fun K hK => ?_))
                        | (refine ord_drop rfl rfl (fun K hK => ?_))
                        | (refine ord_nil ?_))
          go_roundw
          case rel => exact ⟨k + 1, by go_num, hlt, HNE, Lib.hid hM.out.drew⟩
          case measure => simp [intOf]; omega
      · obtain rfl : k = ns.length := by omega
        have hpk : place tx ns = ns.length := by
          by_cases hm : tx ∈ ns
          · have := place_lt hm; have := hp.out; omega
          · exact place_out hm
        obtain ⟨hmo, hpm⟩ := more_new hpk
        have HMO : Hid (more ns tx = ns ++ [tx]) := hmo
        have HPK : Hid (place tx (ns ++ [tx]) = ns.length) := hpm
        have HN : Hid (∀ w, Calls Tryd.prog 124 #[.int .i64 ((ns.length : Int) + 1)] w fun e w' => e = .returned (.string ⟨(Lib.decDigits (ns.length + 1)).toArray⟩) ∧ Mod (fun _ => False) w w') := fun w => by
          have := number_any (ns.length + 1) w (by omega)
          exact this
        have hle := decDigits_le (ns.length + 1)
        have HV := Lib.hid (vN_cat (ns.length + 1))
        clear hpk hmo hpm
        generalize Lib.decDigits (ns.length + 1) = D at *
        have hno : ¬ 9223372036854775807 < 1 + D.length := by omega
        have HOw := Lib.hid (HO.out.mod (HM0.out.trans hM.out) (fun _ _ => id))
        go_wp2_with (at_builtin; refine wpL_appendN (us := [.string tx]) rfl (.tmp 42) (.tmp 45) 111 rfl tiS rfl HOw.out rfl rfl rfl (by omega) (by unfold maxLen; omega) ?_; intro a4 c4 w4 hO4 hG4 _
                     have HO4 := Lib.hid hO4; have HG4 := Lib.hid hG4
                     have hal : ∀ b, blk a = some b → b < w.heap.size := HO.out.lt
                     have hmg := hG4.mod
                     have q0 := hmg.at Q0.out (by first | exact id | (intro e; have := hal _ e; omega))
                     have q1 := hmg.at Q1.out (by first | exact id | (intro e; have := hal _ e; omega))
                     have t0 := cell_at (j := 0) q0 rfl
                     have t1 := cell_at (j := 1) q0 rfl
                     have ft : w4.frozen? ⟨w.heap.size, 1, none⟩ = false := frozen_at q0
                     have r0 := cell_at (j := 0) q1 rfl
                     have r1 := cell_at (j := 1) q1 rfl
                     have g0 : w4.frozen? ⟨w.heap.size + 1, 0, none⟩ = false := frozen_at q1
                     have g1 : w4.frozen? ⟨w.heap.size + 1, 1, none⟩ = false := frozen_at q1
                     have Q3 := Lib.hid q0; have Q4 := Lib.hid q1
                     clear hO4 hG4 hmg q0 q1 hal)
        clear t0 t1 ft r0 r1 g0 g1
        refine (HN.out _).mono ?_
        rintro e w2 ⟨rfl, hM2⟩
        have q0 := hM2.at Q3.out id
        have q1 := hM2.at Q4.out id
        have t0 := cell_at (j := 0) q0 rfl
        have t1 := cell_at (j := 1) q0 rfl
        have ft : w2.frozen? ⟨w.heap.size, 1, none⟩ = false := frozen_at q0
        have r0 := cell_at (j := 0) q1 rfl
        have r1 := cell_at (j := 1) q1 rfl
        have g0 : w2.frozen? ⟨w.heap.size + 1, 0, none⟩ = false := frozen_at q1
        have g1 : w2.frozen? ⟨w.heap.size + 1, 1, none⟩ = false := frozen_at q1
        have Q2 := Lib.hid q1
        have hlw : w.heap.size + 2 ≤ wr.heap.size := by have := hM.out.size; omega
        have HM2 := Lib.hid hM2
        clear q0 q1 hM2 Q0 Q1 HN
        go_wp2_with fail
        have hG := Grow.pre0 (HM0.out.trans hM.out) (HG4.out.post (HM2.out.mono (fun _ _ h => h.elim)))
        have HG := Lib.hid hG; clear hG
        have hne4 : ∀ b', blk a4 = some b' → b' ≠ w.heap.size ∧ b' ≠ w.heap.size + 1 := fun b' hb' => by
          rcases HG4.out.pos with e | ⟨g, e, hg⟩
          · rw [e] at hb'; have := HO.out.lt b' hb'; omega
          · rw [e] at hb'; cases hb'; omega
        have HNE := Lib.hid hne4; clear hne4
        have hm : Mod (fun k => k = w.heap.size ∨ k = w.heap.size + 1) w2 (((w2.setCell ⟨w.heap.size, 1, none⟩ (.string (⟨#[86]⟩ ++ ⟨D.toArray⟩))).setCell ⟨w.heap.size + 1, 0, none⟩ (.int .i64 tk)).setCell ⟨w.heap.size + 1, 1, none⟩ (.string (⟨#[86]⟩ ++ ⟨D.toArray⟩))) :=
          (((Mod.refl _ w2).setCell (p := ⟨w.heap.size, 1, none⟩) (fun _ => .inl rfl) _).setCell (p := ⟨w.heap.size + 1, 0, none⟩) (fun _ => .inr rfl) _).setCell (p := ⟨w.heap.size + 1, 1, none⟩) (fun _ => .inr rfl) _
        have hb2 := heap_setCell_at (j := 1) (.string (⟨#[86]⟩ ++ ⟨D.toArray⟩)) (heap_setCell_at (j := 0) (.int .i64 tk) (((Mod.refl (fun k => k = w.heap.size) w2).setCell (p := ⟨w.heap.size, 1, none⟩) (fun _ => rfl) (.string (⟨#[86]⟩ ++ ⟨D.toArray⟩))).at Q2.out (by omega)))
        have z0 := cell_at (j := 0) (u := .int .i64 tk) hb2 rfl
        have z1 := cell_at (j := 1) (u := .string (⟨#[86]⟩ ++ ⟨D.toArray⟩)) hb2 rfl
        generalize (((w2.setCell ⟨w.heap.size, 1, none⟩ (.string (⟨#[86]⟩ ++ ⟨D.toArray⟩))).setCell ⟨w.heap.size + 1, 0, none⟩ (.int .i64 tk)).setCell ⟨w.heap.size + 1, 1, none⟩ (.string (⟨#[86]⟩ ++ ⟨D.toArray⟩))) = W at *
        have hne := HNE.out
        exact bodyPost_ret (v := .tuple #[.agg #[.int .i64 tk, .string (⟨#[86]⟩ ++ ⟨D.toArray⟩)], .slice a4 (ns.length + 1) c4]) (by simp [results, Tryd.results72, go_sem, z0, z1]) rfl
          ⟨a4, _, by rw [HMO.out, HPK.out, ← HV.out]; (try rw [List.length_append]; rfl), by rw [HMO.out]; exact (Mine.Own.mod (e := 9) (n := (ns ++ [tx]).length) (by rw [List.length_append, sts_append]; exact HO4.out) HM2.out (fun _ _ => id)).mod hm (fun b hb e => by have := hne b hb; omega), ⟨(HG.out).mod.step hm (fun i hi hs => by omega), (HG.out).pos⟩⟩
end Go.Proofs.YtidgpcjnfkhjoaaDoor
