/-
  sibylref09.renamed: one term, the names so far, and one more.
-/
import Derived.Test.YteecbbnpgmceiaaGreatDoorNumber
import Derived.Test.YteecbbnpgmceiaaGreatDoorSame
import Derived.Test.YteecbbnpgmceiaaGreatDoorOwG
namespace Go.Proofs.YteecbbnpgmceiaaGreatDoor
open Go Go.RowKit Go.Mine
set_option linter.unusedVariables false
set_option maxHeartbeats 4000000
set_option maxRecDepth 100000

theorem tiS : TI Tryz.prog 93 9 1 16 := TI.mk' (z := .string ByteArray.empty) (by kernel_rfl) (by kernel_rfl) rfl (by omega)
theorem vN_cat (n : Nat) : (⟨#[86]⟩ : ByteArray) ++ ⟨(Lib.decDigits n).toArray⟩ = vN n := ba_cat [86] (Lib.decDigits n)
theorem place_at {x : ByteArray} {l : List ByteArray} {k : Nat} (h1 : k ≤ place x l) (hk : l[k]? = some x) : place x l = k := by
  rcases Nat.lt_or_ge k (place x l) with h | h
  · exact absurd rfl (place_before h hk)
  · omega
theorem place_past {x : ByteArray} {l : List ByteArray} {k : Nat} (h1 : k ≤ place x l) (hk : k < l.length) (hn : l[k] ≠ x) : k + 1 ≤ place x l := by
  rcases Nat.lt_or_ge k (place x l) with h | h
  · exact h
  · have e : place x l = k := by omega
    have := place_get (place_iff.1 (by rw [e]; exact hk))
    rw [e, List.getElem?_eq_getElem hk] at this
    exact absurd (Option.some.inj this) hn
theorem more_old {x : ByteArray} {l : List ByteArray} (h : place x l < l.length) : more l x = l := by unfold more; rw [if_pos h]
theorem more_new {x : ByteArray} {l : List ByteArray} (h : place x l = l.length) : more l x = l ++ [x] ∧ place x (l ++ [x]) = l.length := by
  have hn : x ∉ l := fun hm => by have := place_lt hm; omega
  exact ⟨by unfold more; rw [if_neg (by omega)], place_new hn⟩
theorem sts_get {l : List ByteArray} {k : Nat} (hk : k < l.length) : (sts l)[k]? = some (.string l[k]) := by simp [sts, hk]

theorem renamed_any (t : Tm) (ns : List ByteArray) (a : Option Addr) (c : Nat) (w : World) (ho : Mine.Own w 9 1 a ns.length c (sts ns)) (hn : ns.length < 2 ^ 30) :
    Calls Tryz.prog 92 #[tmV t, .slice a ns.length c] w fun e w' => ∃ a' c', e = .returned (.tuple #[tmV (nmTm ns t).1, .slice a' (nmTm ns t).2.length c']) ∧
      Mine.Own w' 9 1 a' (nmTm ns t).2.length c' (sts (nmTm ns t).2) ∧ Grow w a w' a' := by
  obtain ⟨tk, tx⟩ := t
  unfold nmTm tmV
  simp only
  have hb0 : ((w.alloc (.cells #[.int .i64 tk, .string tx] 100)).alloc (.cells #[.int .i64 0, .string ⟨#[]⟩] 100)).heap[w.heap.size]? = some (.cells #[.int .i64 tk, .string tx] 100 (0, 0)) := heap_two1 w _ _
  have hb1 : ((w.alloc (.cells #[.int .i64 tk, .string tx] 100)).alloc (.cells #[.int .i64 0, .string ⟨#[]⟩] 100)).heap[w.heap.size + 1]? = some (.cells #[.int .i64 0, .string ⟨#[]⟩] 100 (0, 0)) := heap_two2 w _ _
  have hm0 : Mod (fun _ => False) w ((w.alloc (.cells #[.int .i64 tk, .string tx] 100)).alloc (.cells #[.int .i64 0, .string ⟨#[]⟩] 100)) := ((Mod.refl _ w).alloc _).alloc _
  have hz0 : ((w.alloc (.cells #[.int .i64 tk, .string tx] 100)).alloc (.cells #[.int .i64 0, .string ⟨#[]⟩] 100)).heap.size = w.heap.size + 2 := by simp
  have HO := Lib.hid ho; clear ho
  by_cases hk : asIs tk
  · rw [if_pos hk]
    simp only
    have hcase : tk = 2 ∨ tk = 3 ∨ tk = 4 := hk
    clear hk
    rcases hcase with rfl | rfl | rfl
    all_goals
      go_enter Tryz.func92, Tryz.ntmps92
      go_wp2_with fail
      refine bodyPost_ret (v := .tuple #[.agg #[.int .i64 _, .string tx], .slice a ns.length c]) (by simp [results, Tryz.results92, go_sem]) rfl
        ⟨a, c, rfl, HO.out.mod (((Mod.refl (fun _ => False) w).alloc _).alloc _) (fun _ _ => id), Grow.pre0 (((Mod.refl (fun _ => False) w).alloc _).alloc _) (Grow.refl _ _)⟩
  · rw [if_neg hk]
    simp only
    have e2 : (tk == 2) = false := by simp; intro h; exact hk (.inl h)
    have e3 : (tk == 3) = false := by simp; intro h; exact hk (.inr (.inl h))
    have e4 : (tk == 4) = false := by simp; intro h; exact hk (.inr (.inr h))
    clear hk
    go_enter Tryz.func92, Tryz.ntmps92
    go_wp2_with fail
    generalize ((w.alloc (.cells #[.int .i64 tk, .string tx] 100)).alloc (.cells #[.int .i64 0, .string ⟨#[]⟩] 100)) = w0 at *
    have HB0 := Lib.hid hb0; have HB1 := Lib.hid hb1; have HM0 := Lib.hid hm0
    clear hb0 hb1 hm0
    go_loopw [6] (fun iv wr => ∃ k : Nat, iv = .int .i64 k ∧ k ≤ ns.length ∧ Hid (k ≤ place tx ns) ∧ Hid (Mod (fun _ => False) w0 wr)) (fun iv _ => ns.length - (intOf iv).toNat)
    case atStart => exact ⟨0, rfl, Nat.zero_le _, Lib.hid (Nat.zero_le _), Lib.hid (Mod.refl _ w0)⟩
    case round =>
      obtain ⟨k, rfl, hk, hp, hM⟩ := hrel
      have q0 := hM.out.at HB0.out id
      have q1 := hM.out.at HB1.out id
      have t0 := cell_at (j := 0) q0 rfl
      have t1 := cell_at (j := 1) q0 rfl
      have ft : wr.frozen? ⟨w.heap.size, 1, none⟩ = false := frozen_at q0
      have r0 := cell_at (j := 0) q1 rfl
      have r1 := cell_at (j := 1) q1 rfl
      have g0 : wr.frozen? ⟨w.heap.size + 1, 0, none⟩ = false := frozen_at q1
      have g1 : wr.frozen? ⟨w.heap.size + 1, 1, none⟩ = false := frozen_at q1
      have Q0 := Lib.hid q0; have Q1 := Lib.hid q1
      clear q0 q1
      by_cases hlt : k < ns.length
      · obtain ⟨b, o, rfl, hc⟩ := (HO.out.mod (HM0.out.trans hM.out) (fun _ _ => id)).rd k _ (sts_get hlt)
        by_cases heq : ns[k] = tx
        · rw [heq] at hc
          have hpk : place tx ns = k := place_at hp.out (by rw [List.getElem?_eq_getElem hlt, heq])
          have hmo := more_old (x := tx) (l := ns) (by omega)
          have HPK := Lib.hid hpk; have HMO := Lib.hid hmo
          clear hpk hmo heq
          have hIK := number_any (k + 1)
          have HN : Hid (∀ w, Calls Tryz.prog 143 #[.int .i64 ((k : Int) + 1)] w fun e w' => e = .returned (.string ⟨(Lib.decDigits (k + 1)).toArray⟩) ∧ Mod (fun _ => False) w w') := fun w => by
            have := number_any (k + 1) w (by omega)
            exact this
          have hle := decDigits_le (k + 1)
          have HV := Lib.hid (vN_cat (k + 1))
          clear hIK
          generalize Lib.decDigits (k + 1) = D at *
          have hno : ¬ 9223372036854775807 < 1 + D.length := by omega
          go_wp2_with fail
          refine wp_region_ord (fun w' => w'.cell? ⟨b, o + k, none⟩ = some (.string tx) ∧ w'.cell? ⟨w.heap.size, 1, none⟩ = some (.string tx)) [(0, 0), (0, 1), (0, 2), (1, 3), (0, 4), (1, 5), (0, 6)] (by kernel_rfl) (by kernel_rfl) ?_
          go_wp2_with (first
            | (refine ord_pure rfl rfl rfl (fun K hK => ?_); go_big_quiet_op; refine hK _ ?_; clear hK K)
                                                                | (refine ord_skip rfl rfl ?_; simp only [Act.put, List.setIfInBounds_toArray, List.set_cons_zero, List.set_cons_succ])
                                                                | (refine ord_held rfl rfl rfl (⟨by simpa using hc, by simpa using t1⟩) (fun K hK => ?_); apply Exists.intro; refine ⟨fun w' hs => ?_, hK _ ?_⟩; (revert hs; dsimp only; (try simp only [and_imp]); intros; go_simp; rfl); clear hK K)
                                                                | (refine ord_keep rfl rfl (⟨by simpa using hc, by simpa using t1⟩) (fun K hK => ?_))
                                                                | (refine ord_drop rfl rfl (fun K hK => ?_))
                                                                | (refine ord_nil ?_))
          clear t0 t1 ft r0 r1 g0 g1
          refine (HN.out _).mono ?_
          rintro e w2 ⟨rfl, hM2⟩
          have hM3 : Mod (fun _ => False) wr w2 := ((Mod.refl (fun _ => False) wr).drew).trans hM2
          have HM3 := Lib.hid (HM0.out.trans (hM.out.trans hM3))
          have q0 := hM3.at Q0.out (by first | exact id | (intro e; have := id _ e; omega))
          have q1 := hM3.at Q1.out (by first | exact id | (intro e; have := id _ e; omega))
          have t0 := cell_at (j := 0) q0 rfl
          have t1 := cell_at (j := 1) q0 rfl
          have ft : w2.frozen? ⟨w.heap.size, 1, none⟩ = false := frozen_at q0
          have r0 := cell_at (j := 0) q1 rfl
          have r1 := cell_at (j := 1) q1 rfl
          have g0 : w2.frozen? ⟨w.heap.size + 1, 0, none⟩ = false := frozen_at q1
          have g1 : w2.frozen? ⟨w.heap.size + 1, 1, none⟩ = false := frozen_at q1
          have Q2 := Lib.hid q1
          clear q0 q1 hM2 hM3 Q0 Q1 HN
          go_wp2_with fail
          have hm : Mod (fun k => k = w.heap.size ∨ k = w.heap.size + 1) w2 (((w2.setCell ⟨w.heap.size, 1, none⟩ (.string (⟨#[86]⟩ ++ ⟨D.toArray⟩))).setCell ⟨w.heap.size + 1, 0, none⟩ (.int .i64 tk)).setCell ⟨w.heap.size + 1, 1, none⟩ (.string (⟨#[86]⟩ ++ ⟨D.toArray⟩))) :=
            (((Mod.refl _ w2).setCell (p := ⟨w.heap.size, 1, none⟩) (fun _ => .inl rfl) _).setCell (p := ⟨w.heap.size + 1, 0, none⟩) (fun _ => .inr rfl) _).setCell (p := ⟨w.heap.size + 1, 1, none⟩) (fun _ => .inr rfl) _
          have hb2 := heap_setCell_at (j := 1) (.string (⟨#[86]⟩ ++ ⟨D.toArray⟩)) (heap_setCell_at (j := 0) (.int .i64 tk) (((Mod.refl (fun k => k = w.heap.size) w2).setCell (p := ⟨w.heap.size, 1, none⟩) (fun _ => rfl) (.string (⟨#[86]⟩ ++ ⟨D.toArray⟩))).at Q2.out (by omega)))
          have z0 := cell_at (j := 0) (u := .int .i64 tk) hb2 rfl
          have z1 := cell_at (j := 1) (u := .string (⟨#[86]⟩ ++ ⟨D.toArray⟩)) hb2 rfl
          generalize (((w2.setCell ⟨w.heap.size, 1, none⟩ (.string (⟨#[86]⟩ ++ ⟨D.toArray⟩))).setCell ⟨w.heap.size + 1, 0, none⟩ (.int .i64 tk)).setCell ⟨w.heap.size + 1, 1, none⟩ (.string (⟨#[86]⟩ ++ ⟨D.toArray⟩))) = W at *
          have hne := (fun b' hb' => by have := HO.out.lt b' hb'; exact (show b' ≠ w.heap.size ∧ b' ≠ w.heap.size + 1 by omega))
          exact bodyPost_ret (v := .tuple #[.agg #[.int .i64 tk, .string (⟨#[86]⟩ ++ ⟨D.toArray⟩)], .slice (some ⟨b, o, none⟩) ns.length c]) (by simp [results, Tryz.results92, go_sem, z0, z1]) rfl
            ⟨(some ⟨b, o, none⟩), _, by rw [HMO.out, HPK.out, ← HV.out]; (try rfl), by rw [HMO.out]; exact (HO.out.mod HM3.out (fun _ _ => id)).mod hm (fun b hb e => by have := hne b hb; omega), ⟨(Grow.pre0 HM3.out (Grow.refl _ _)).mod.step hm (fun i hi hs => by omega), (Grow.pre0 HM3.out (Grow.refl _ _)).pos⟩⟩
        · have HNE := Lib.hid (place_past hp.out hlt heq)
          have hb : (ns[k].toList == tx.toList) = false := by rw [baEq]; simpa using heq
          clear heq
          generalize ns[k] = y at *
          go_wp2_with fail
          refine wp_region_ord (fun w' => w'.cell? ⟨b, o + k, none⟩ = some (.string y) ∧ w'.cell? ⟨w.heap.size, 1, none⟩ = some (.string tx)) [(0, 0), (0, 1), (0, 2), (1, 3), (0, 4), (1, 5), (0, 6)] (by kernel_rfl) (by kernel_rfl) ?_
          go_wp2_with (first
            | (refine ord_pure rfl rfl rfl (fun K hK => ?_); go_big_quiet_op; refine hK _ ?_; clear hK K)
                                                                | (refine ord_skip rfl rfl ?_; simp only [Act.put, List.setIfInBounds_toArray, List.set_cons_zero, List.set_cons_succ])
                                                                | (refine ord_held rfl rfl rfl (⟨by simpa using hc, by simpa using t1⟩) (fun K hK => ?_); apply Exists.intro; refine ⟨fun w' hs => ?_, hK _ ?_⟩; (revert hs; dsimp only; (try simp only [and_imp]); intros; go_simp; rfl); clear hK K)
                                                                | (refine ord_keep rfl rfl (⟨by simpa using hc, by simpa using t1⟩) (fun K hK => ?_))
                                                                | (refine ord_drop rfl rfl (fun K hK => ?_))
                                                                | (refine ord_nil ?_))
          go_roundw
          case rel => exact ⟨k + 1, by go_num, hlt, HNE, Lib.hid hM.out.drew⟩
          case measure => simp [intOf]; omega
      · obtain rfl : k = ns.length := by omega
        have hpk : place tx ns = ns.length := by
          by_cases hm : tx ∈ ns
          · have := place_lt hm; have := hp.out; omega
          · exact place_out hm
        obtain ⟨hmo, hpm⟩ := more_new hpk
        have HMO : Hid (more ns tx = ns ++ [tx]) := hmo
        have HPK : Hid (place tx (ns ++ [tx]) = ns.length) := hpm
        have HN : Hid (∀ w, Calls Tryz.prog 143 #[.int .i64 ((ns.length : Int) + 1)] w fun e w' => e = .returned (.string ⟨(Lib.decDigits (ns.length + 1)).toArray⟩) ∧ Mod (fun _ => False) w w') := fun w => by
          have := number_any (ns.length + 1) w (by omega)
          exact this
        have hle := decDigits_le (ns.length + 1)
        have HV := Lib.hid (vN_cat (ns.length + 1))
        clear hpk hmo hpm
        generalize Lib.decDigits (ns.length + 1) = D at *
        have hno : ¬ 9223372036854775807 < 1 + D.length := by omega
        have HOw := Lib.hid (HO.out.mod (HM0.out.trans hM.out) (fun _ _ => id))
        go_wp2_with (at_builtin; refine wpL_appendN (us := [.string tx]) rfl (.tmp 42) (.tmp 45) 93 rfl tiS rfl HOw.out rfl rfl rfl (by omega) (by unfold maxLen; omega) ?_; intro a4 c4 w4 hO4 hG4 _
                     have HO4 := Lib.hid hO4; have HG4 := Lib.hid hG4
                     have hal : ∀ b, blk a = some b → b < w.heap.size := HO.out.lt
                     have hmg := hG4.mod
                     have q0 := hmg.at Q0.out (by first | exact id | (intro e; have := hal _ e; omega))
                     have q1 := hmg.at Q1.out (by first | exact id | (intro e; have := hal _ e; omega))
                     have t0 := cell_at (j := 0) q0 rfl
                     have t1 := cell_at (j := 1) q0 rfl
                     have ft : w4.frozen? ⟨w.heap.size, 1, none⟩ = false := frozen_at q0
                     have r0 := cell_at (j := 0) q1 rfl
                     have r1 := cell_at (j := 1) q1 rfl
                     have g0 : w4.frozen? ⟨w.heap.size + 1, 0, none⟩ = false := frozen_at q1
                     have g1 : w4.frozen? ⟨w.heap.size + 1, 1, none⟩ = false := frozen_at q1
                     have Q3 := Lib.hid q0; have Q4 := Lib.hid q1
                     clear hO4 hG4 hmg q0 q1 hal)
        clear t0 t1 ft r0 r1 g0 g1
        refine (HN.out _).mono ?_
        rintro e w2 ⟨rfl, hM2⟩
        have q0 := hM2.at Q3.out id
        have q1 := hM2.at Q4.out id
        have t0 := cell_at (j := 0) q0 rfl
        have t1 := cell_at (j := 1) q0 rfl
        have ft : w2.frozen? ⟨w.heap.size, 1, none⟩ = false := frozen_at q0
        have r0 := cell_at (j := 0) q1 rfl
        have r1 := cell_at (j := 1) q1 rfl
        have g0 : w2.frozen? ⟨w.heap.size + 1, 0, none⟩ = false := frozen_at q1
        have g1 : w2.frozen? ⟨w.heap.size + 1, 1, none⟩ = false := frozen_at q1
        have Q2 := Lib.hid q1
        have hlw : w.heap.size + 2 ≤ wr.heap.size := by have := hM.out.size; omega
        have HM2 := Lib.hid hM2
        clear q0 q1 hM2 Q0 Q1 HN
        go_wp2_with fail
        have hG := Grow.pre0 (HM0.out.trans hM.out) (HG4.out.post (HM2.out.mono (fun _ _ h => h.elim)))
        have HG := Lib.hid hG; clear hG
        have hne4 : ∀ b', blk a4 = some b' → b' ≠ w.heap.size ∧ b' ≠ w.heap.size + 1 := fun b' hb' => by
          rcases HG4.out.pos with e | ⟨g, e, hg⟩
          · rw [e] at hb'; have := HO.out.lt b' hb'; omega
          · rw [e] at hb'; cases hb'; omega
        have HNE := Lib.hid hne4; clear hne4
        have hm : Mod (fun k => k = w.heap.size ∨ k = w.heap.size + 1) w2 (((w2.setCell ⟨w.heap.size, 1, none⟩ (.string (⟨#[86]⟩ ++ ⟨D.toArray⟩))).setCell ⟨w.heap.size + 1, 0, none⟩ (.int .i64 tk)).setCell ⟨w.heap.size + 1, 1, none⟩ (.string (⟨#[86]⟩ ++ ⟨D.toArray⟩))) :=
          (((Mod.refl _ w2).setCell (p := ⟨w.heap.size, 1, none⟩) (fun _ => .inl rfl) _).setCell (p := ⟨w.heap.size + 1, 0, none⟩) (fun _ => .inr rfl) _).setCell (p := ⟨w.heap.size + 1, 1, none⟩) (fun _ => .inr rfl) _
        have hb2 := heap_setCell_at (j := 1) (.string (⟨#[86]⟩ ++ ⟨D.toArray⟩)) (heap_setCell_at (j := 0) (.int .i64 tk) (((Mod.refl (fun k => k = w.heap.size) w2).setCell (p := ⟨w.heap.size, 1, none⟩) (fun _ => rfl) (.string (⟨#[86]⟩ ++ ⟨D.toArray⟩))).at Q2.out (by omega)))
        have z0 := cell_at (j := 0) (u := .int .i64 tk) hb2 rfl
        have z1 := cell_at (j := 1) (u := .string (⟨#[86]⟩ ++ ⟨D.toArray⟩)) hb2 rfl
        generalize (((w2.setCell ⟨w.heap.size, 1, none⟩ (.string (⟨#[86]⟩ ++ ⟨D.toArray⟩))).setCell ⟨w.heap.size + 1, 0, none⟩ (.int .i64 tk)).setCell ⟨w.heap.size + 1, 1, none⟩ (.string (⟨#[86]⟩ ++ ⟨D.toArray⟩))) = W at *
        have hne := HNE.out
        exact bodyPost_ret (v := .tuple #[.agg #[.int .i64 tk, .string (⟨#[86]⟩ ++ ⟨D.toArray⟩)], .slice a4 (ns.length + 1) c4]) (by simp [results, Tryz.results92, go_sem, z0, z1]) rfl
          ⟨a4, _, by rw [HMO.out, HPK.out, ← HV.out]; (try rw [List.length_append]; rfl), by rw [HMO.out]; exact (Mine.Own.mod (e := 9) (n := (ns ++ [tx]).length) (by rw [List.length_append, sts_append]; exact HO4.out) HM2.out (fun _ _ => id)).mod hm (fun b hb e => by have := hne b hb; omega), ⟨(HG.out).mod.step hm (fun i hi hs => by omega), (HG.out).pos⟩⟩
end Go.Proofs.YteecbbnpgmceiaaGreatDoor
/-
  What a renaming answers: terms in memory of its own, apart from the names; sibylref09.renamedAtom.
-/
namespace Go.Mine
open Go Go.RowKit
theorem Rd.blkLt {w : World} {a : Option Addr} {ts : List Tm} (h : Rd w a (tmsC ts)) (hn : ts ≠ []) : ∀ b, blk a = some b → b < w.heap.size :=
  h.lt (fun e => hn (by
    cases ts with
    | nil => rfl
    | cons t ts => cases e))
/-- terms that lie in blocks of which G holds -/
def TsF (w : World) (G : Nat → Prop) (s : Value) (ts : List Tm) : Prop :=
  ∃ a c, s = .slice a ts.length c ∧ Rd w a (tmsC ts) ∧ (ts ≠ [] → ∀ b, blk a = some b → G b)
theorem TsF.at {w : World} {G : Nat → Prop} {s : Value} {ts : List Tm} (h : TsF w G s ts) : TsAt w s ts := by
  obtain ⟨a, c, e, hr, _⟩ := h
  exact ⟨a, c, e, hr⟩
theorem TsF.empty (w : World) (G : Nat → Prop) (a : Option Addr) (c : Nat) : TsF w G (.slice a 0 c) [] := ⟨a, c, rfl, Rd.nil _ _, fun h => absurd rfl h⟩
theorem TsF.step {S G G' : Nat → Prop} {w w' : World} {s : Value} {ts : List Tm} (h : TsF w G s ts) (m : Mod S w w') (hs : ∀ b, b < w.heap.size → G b → ¬ S b) (hg : ∀ b, b < w.heap.size → G b → G' b) : TsF w' G' s ts := by
  obtain ⟨a, c, e, hr, hb⟩ := h
  by_cases hn : ts = []
  · subst hn
    exact ⟨a, c, e, Rd.nil _ _, fun h => absurd rfl h⟩
  · exact ⟨a, c, e, hr.mod m (fun b h => hs b (hr.blkLt hn b h) (hb hn b h)), fun h b hbb => hg b (hr.blkLt hn b hbb) (hb h b hbb)⟩
theorem TsF.mod0 {G : Nat → Prop} {w w' : World} {s : Value} {ts : List Tm} (h : TsF w G s ts) (m : Mod (fun _ => False) w w') : TsF w' G s ts := h.step m (fun _ _ _ => id) (fun _ _ => id)
theorem TsF.mono {G G' : Nat → Prop} {w : World} {s : Value} {ts : List Tm} (h : TsF w G s ts) (hg : ∀ b, b < w.heap.size → G b → G' b) : TsF w G' s ts := h.step (Mod.refl (fun _ => False) w) (fun _ _ _ => id) hg
/-- literals likewise -/
def LsF (w : World) (G : Nat → Prop) (s : Value) (ls : List Lm) : Prop :=
  ∃ a c xs, s = .slice a ls.length c ∧ xs.map Prod.fst = ls ∧ Rd w a (lmsC xs) ∧ (ls ≠ [] → ∀ b, blk a = some b → G b) ∧ ∀ x ∈ xs, TsF w G x.2 x.1.atom.terms
theorem LsF.at {w : World} {G : Nat → Prop} {s : Value} {ls : List Lm} (h : LsF w G s ls) : LsAt w s ls := by
  obtain ⟨a, c, xs, e, hx, hr, _, ht⟩ := h
  exact ⟨a, c, xs, e, hx, hr, fun x hx => (ht x hx).at⟩
theorem LsF.step {S G G' : Nat → Prop} {w w' : World} {s : Value} {ls : List Lm} (h : LsF w G s ls) (m : Mod S w w') (hs : ∀ b, b < w.heap.size → G b → ¬ S b) (hg : ∀ b, b < w.heap.size → G b → G' b) : LsF w' G' s ls := by
  obtain ⟨a, c, xs, e, hx, hr, hb, ht⟩ := h
  refine ⟨a, c, xs, e, hx, ?_, ?_, fun x hx => (ht x hx).step m hs hg⟩
  · by_cases hn : ls = []
    · subst hn
      obtain rfl : xs = [] := List.map_eq_nil_iff.1 hx
      exact Rd.nil _ _
    · have hlt : ∀ b, blk a = some b → b < w.heap.size := hr.lt (fun e => hn (by
        rw [← hx]
        cases xs with
        | nil => rfl
        | cons x xs => cases e))
      exact hr.mod m (fun b h => hs b (hlt b h) (hb hn b h))
  · intro hn b h
    have hlt : ∀ b, blk a = some b → b < w.heap.size := hr.lt (fun e => hn (by
      rw [← hx]
      cases xs with
      | nil => rfl
      | cons x xs => cases e))
    exact hg b (hlt b h) (hb hn b h)
/-- what changes outside the names, and where the names lie then -/
theorem Grow.step {w w1 w2 : World} {a a1 : Option Addr} {S : Nat → Prop} (g : Grow w a w1 a1) (m : Mod S w1 w2) (hs : ∀ b, b < w.heap.size → S b → blk a = some b) : Grow w a w2 a1 :=
  ⟨g.mod.step m hs, g.pos⟩
end Go.Mine
namespace Go.Proofs.YteecbbnpgmceiaaGreatDoor
open Go Go.RowKit Go.Mine
set_option linter.unusedVariables false
set_option maxHeartbeats 4000000
set_option maxRecDepth 100000

theorem nmTm_le (ns : List ByteArray) (t : Tm) : (nmTm ns t).2.length ≤ ns.length + 1 := by
  unfold nmTm
  split
  · exact Nat.le_succ _
  · exact more_len _ _
theorem nmTs_le : ∀ (ns : List ByteArray) (ts : List Tm), (nmTs ns ts).2.length ≤ ns.length + ts.length
  | ns, [] => Nat.le_refl _
  | ns, t :: ts => by
    have h1 := nmTm_le ns t
    have h2 := nmTs_le (nmTm ns t).2 ts
    show (nmTs (nmTm ns t).2 ts).2.length ≤ _
    rw [List.length_cons]
    omega
theorem renamedAtom_any (p : ByteArray) (ts : List Tm) (s : Value) (ns : List ByteArray) (a : Option Addr) (c : Nat) (w0 w : World) (ht : TsAt w0 s ts) (hm0 : Mod (fun _ => False) w0 w) (hfa : ∀ b, blk a = some b → w0.heap.size ≤ b)
    (ho : Mine.Own w 9 1 a ns.length c (sts ns)) (hn : ns.length + ts.length < 2 ^ 30) :
    Calls Tryz.prog 91 #[.agg #[.string p, s], .slice a ns.length c] w fun e w' => ∃ s' a' c', e = .returned (.tuple #[.agg #[.string p, s'], .slice a' (nmTs ns ts).2.length c']) ∧
      TsF w' (fun b => w.heap.size ≤ b ∧ blk a' ≠ some b) s' (nmTs ns ts).1 ∧ Mine.Own w' 9 1 a' (nmTs ns ts).2.length c' (sts (nmTs ns ts).2) ∧ Grow w a w' a' := by
  obtain ⟨sa, sc, rfl, hr⟩ := ht
  have hrl : ts ≠ [] → ∀ b, blk sa = some b → b < w0.heap.size := fun h => hr.blkLt h
  have hb0 : ((w.alloc (.cells #[.string p, .slice sa ts.length sc] 43)).alloc (.cells #[.string ⟨#[]⟩, .slice none 0 0] 43)).heap[w.heap.size]? = some (.cells #[.string p, .slice sa ts.length sc] 43 (0, 0)) := heap_two1 w _ _
  have hb1 : ((w.alloc (.cells #[.string p, .slice sa ts.length sc] 43)).alloc (.cells #[.string ⟨#[]⟩, .slice none 0 0] 43)).heap[w.heap.size + 1]? = some (.cells #[.string ⟨#[]⟩, .slice none 0 0] 43 (0, 0)) := heap_two2 w _ _
  have hm1 : Mod (fun _ => False) w ((w.alloc (.cells #[.string p, .slice sa ts.length sc] 43)).alloc (.cells #[.string ⟨#[]⟩, .slice none 0 0] 43)) := ((Mod.refl _ w).alloc _).alloc _
  have hz1 : ((w.alloc (.cells #[.string p, .slice sa ts.length sc] 43)).alloc (.cells #[.string ⟨#[]⟩, .slice none 0 0] 43)).heap.size = w.heap.size + 2 := by simp
  have HRD : Hid (∀ wr, Mod (fun b => blk a = some b) w wr → Rd wr sa (tmsC ts)) := fun wr m => by
    by_cases hne : ts = []
    · subst hne; exact Rd.nil _ _
    · exact (hr.mod hm0 (fun _ _ => id)).mod m (fun b hb e => by have := hrl hne b hb; have := hfa b e; omega)
  have hal : ∀ b, blk a = some b → b < w.heap.size := ho.lt
  have HAL := Lib.hid hal; have HO := Lib.hid ho
  clear ho hr hrl hfa hm0 hal
  go_enter Tryz.func91, Tryz.ntmps91
  go_wp2_with fail
  generalize ((w.alloc (.cells #[.string p, .slice sa ts.length sc] 43)).alloc (.cells #[.string ⟨#[]⟩, .slice none 0 0] 43)) = w1 at *
  have HB0 := Lib.hid hb0; have HB1 := Lib.hid hb1; have HM1 := Lib.hid hm1
  clear hb0 hb1 hm1
  go_loopw [1, 6, 7] (fun nv lv iv wr => ∃ (k : Nat) (an al : Option Addr) (cn cl : Nat), nv = .slice an (nmTs ns (ts.take k)).2.length cn ∧ lv = .slice al k cl ∧ iv = .int .i64 k ∧ k ≤ ts.length ∧
      Hid (Mine.Own wr 9 1 an (nmTs ns (ts.take k)).2.length cn (sts (nmTs ns (ts.take k)).2)) ∧ Hid (Mine.Own wr 100 2 al k cl (tmsC (nmTs ns (ts.take k)).1)) ∧
      Hid (∀ b, blk al = some b → w.heap.size + 2 ≤ b ∧ blk an ≠ some b) ∧ Hid (Grow w1 a wr an)) (fun _ _ iv _ => ts.length - (intOf iv).toNat)
  case atStart => exact ⟨0, a, none, c, 0, rfl, rfl, rfl, Nat.zero_le _, HO.out.mod HM1.out (fun _ _ => id), Mine.Own.nil _ _ _, Lib.hid (fun b h => by simp at h), Lib.hid (Grow.refl _ _)⟩
  case round =>
    obtain ⟨k, an, al, cn, cl, rfl, rfl, rfl, hk, hOn, hOl, hsep, hG⟩ := hrel
    have hpos : ∀ b, blk an = some b → b ≠ w.heap.size ∧ b ≠ w.heap.size + 1 := fun b hb => by
      rcases hG.out.pos with e | ⟨g, e, hg⟩
      · rw [e] at hb; have := HAL.out b hb; omega
      · rw [e] at hb; cases hb; omega
    have q0 := hG.out.mod.at HB0.out (fun e => by have := HAL.out _ e; omega)
    have q1 := hG.out.mod.at HB1.out (fun e => by have := HAL.out _ e; omega)
    have c0 := cell_at (j := 0) q0 rfl
    have c1 := cell_at (j := 1) q0 rfl
    have fc : wr.frozen? ⟨w.heap.size, 1, none⟩ = false := frozen_at q0
    have r0 := cell_at (j := 0) q1 rfl
    have r1 := cell_at (j := 1) q1 rfl
    have g0 : wr.frozen? ⟨w.heap.size + 1, 0, none⟩ = false := frozen_at q1
    have g1 : wr.frozen? ⟨w.heap.size + 1, 1, none⟩ = false := frozen_at q1
    have hsw : w.heap.size + 2 ≤ wr.heap.size := by have := hG.out.mod.size; omega
    have HG0 := Lib.hid q0; have Q1 := Lib.hid q1
    clear q0 q1
    have HPOS := Lib.hid hpos; clear hpos
    by_cases hlt : k < ts.length
    · obtain ⟨b, o, rfl, x0, x1⟩ := rd_cell2 (HRD.out wr ((HM1.out.mono (fun _ _ h => h.elim)).trans hG.out.mod)) hlt
      have hst := nmTs_snoc ns (ts.take k) ts[k]
      rw [← List.take_succ_eq_append_getElem hlt] at hst
      have HST := Lib.hid hst; clear hst
      obtain ⟨N, hN⟩ : ∃ N, N = (nmTs ns (ts.take k)).2 := ⟨_, rfl⟩
      have hNl : N.length < 2 ^ 30 := by have := nmTs_le ns (ts.take k); rw [← hN, List.length_take] at this; omega
      rw [← hN] at hOn HST ⊢
      have HR := Lib.hid (renamed_any ts[k] N an cn wr hOn.out hNl)
      unfold tmV at HR
      generalize ts[k] = t at *
      clear hN
      obtain ⟨t', ht'⟩ : ∃ t', t' = (nmTm N t).1 := ⟨_, rfl⟩
      obtain ⟨N', hN'⟩ : ∃ N', N' = (nmTm N t).2 := ⟨_, rfl⟩
      rw [← ht', ← hN'] at HR HST
      clear ht' hN'
      go_wp2_with fail
      refine HR.out.mono ?_
      rintro e w2 ⟨a2, c2, rfl, hO2, hG2⟩
      have hl2 : ∀ b, blk al = some b → blk a2 ≠ some b ∧ b < w2.heap.size := fun b hb => by
        have h1 := hOl.out.lt b hb
        exact ⟨hG2.ne h1 (hsep.out b hb).2, Nat.lt_of_lt_of_le h1 hG2.mod.size⟩
      have hOl2 := hOl.out.mod hG2.mod (fun b hb => (hsep.out b hb).2)
      have hmv : Mod (fun _ => False) w2 (w2.alloc (.cells #[.int .i64 t'.kind, .string t'.text] 100)) := (Mod.refl _ w2).alloc _
      have HOL := Lib.hid (hOl2.mod hmv (fun _ _ => id)); have HL2 := Lib.hid hl2; have HO2 := Lib.hid hO2; have HG2 := Lib.hid hG2
      clear hmv hl2 hOl2 hO2 hG2 HR x0 x1
      go_wp2_with (at_builtin; refine wpL_appendN (us := [.int .i64 t'.kind, .string t'.text]) rfl (.tmp 28) (.tmp 30) 41 rfl tiT rfl HOL.out rfl rfl rfl (by omega) (by unfold maxLen; omega) ?_; intro a4 c4 w4 hO4 hG4 _; have HO4 := Lib.hid hO4; have HG4 := Lib.hid hG4; clear hO4 hG4)
      have hOn4 := (HO2.out.mod ((Mod.refl (fun _ => False) w2).alloc (.cells #[.int .i64 t'.kind, .string t'.text] 100)) (fun _ _ => id)).mod HG4.out.mod (fun b hb e => (HL2.out b e).1 hb)
      have hsep4 : ∀ b, blk a4 = some b → w.heap.size + 2 ≤ b ∧ blk a2 ≠ some b := fun b hb => by
        rcases HG4.out.pos with e | ⟨g, e, hg⟩
        · rw [e] at hb
          exact ⟨(hsep.out b hb).1, (HL2.out b hb).1⟩
        · rw [e] at hb; cases hb
          rw [World.size_alloc] at hg
          have := HG2.out.mod.size
          exact ⟨by omega, fun h => by have := HO2.out.lt _ h; omega⟩
      have hG4' : Grow w1 a w4 a2 := (hG.out.trans HG2.out).step ((((Mod.refl (fun b => blk al = some b) w2).alloc _)).trans HG4.out.mod) (fun b hb e => by have := (hsep.out b e).1; omega)
      have H1 := Lib.hid hOn4; have H2 := Lib.hid hsep4; have H3 := Lib.hid hG4'
      clear hOn4 hsep4 hG4'
      go_roundw
      case rel => exact ⟨k + 1, a2, a4, c2, c4, by rw [HST.out], rfl, by go_num, hlt, by rw [HST.out]; exact H1, by rw [HST.out]; simp only [tmsC_append]; exact HO4, H2, H3⟩
      case measure => simp [intOf]; omega
    · obtain rfl : k = ts.length := by omega
      rw [List.take_length] at hOn hOl ⊢
      go_wp2_with fail
      have hm : Mod (fun k => k = w.heap.size ∨ k = w.heap.size + 1) wr (((wr.setCell ⟨w.heap.size, 1, none⟩ (.slice al ts.length cl)).setCell ⟨w.heap.size + 1, 0, none⟩ (.string p)).setCell ⟨w.heap.size + 1, 1, none⟩ (.slice al ts.length cl)) :=
        (((Mod.refl _ wr).setCell (p := ⟨w.heap.size, 1, none⟩) (fun _ => .inl rfl) _).setCell (p := ⟨w.heap.size + 1, 0, none⟩) (fun _ => .inr rfl) _).setCell (p := ⟨w.heap.size + 1, 1, none⟩) (fun _ => .inr rfl) _
      have hb2 := heap_setCell_at (j := 1) (.slice al ts.length cl) (heap_setCell_at (j := 0) (.string p) (((Mod.refl (fun k => k = w.heap.size) wr).setCell (p := ⟨w.heap.size, 1, none⟩) (fun _ => rfl) (.slice al ts.length cl)).at Q1.out (by omega)))
      have z0 := cell_at (j := 0) (u := .string p) hb2 rfl
      have z1 := cell_at (j := 1) (u := .slice al ts.length cl) hb2 rfl
      generalize (((wr.setCell ⟨w.heap.size, 1, none⟩ (.slice al ts.length cl)).setCell ⟨w.heap.size + 1, 0, none⟩ (.string p)).setCell ⟨w.heap.size + 1, 1, none⟩ (.slice al ts.length cl)) = W at *
      have hne : ∀ b, blk an = some b → ¬ (b = w.heap.size ∨ b = w.heap.size + 1) := fun b hb => by have := HPOS.out b hb; omega
      have hne2 : ∀ b, blk al = some b → ¬ (b = w.heap.size ∨ b = w.heap.size + 1) := fun b hb => by have := (hsep.out b hb).1; omega
      exact bodyPost_ret (v := .tuple #[.agg #[.string p, .slice al ts.length cl], .slice an (nmTs ns ts).2.length cn]) (by simp [results, Tryz.results91, go_sem, z0, z1]) rfl
        ⟨_, an, cn, rfl, ⟨al, cl, by rw [nmTs_len], (hOl.out.mod hm hne2).rd, fun _ b hb => ⟨by have := (hsep.out b hb).1; omega, (hsep.out b hb).2⟩⟩, hOn.out.mod hm hne, (Grow.pre0 HM1.out hG.out).step hm (fun b hb e => by omega)⟩
end Go.Proofs.YteecbbnpgmceiaaGreatDoor
