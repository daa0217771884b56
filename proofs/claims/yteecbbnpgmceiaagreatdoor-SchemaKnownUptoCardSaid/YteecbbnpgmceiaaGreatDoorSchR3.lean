/-
  The document's uses and note, walked.
-/
import Derived.Test.YteecbbnpgmceiaaGreatDoorSchR1
import Derived.Test.YteecbbnpgmceiaaGreatDoorOwG
import Derived.Test.YteecbbnpgmceiaaGreatDoorUsesG
import Derived.Test.YteecbbnpgmceiaaGreatDoorSafeG
namespace Go.Proofs.YteecbbnpgmceiaaGreatDoor
open Go Go.RowKit Go.Mine
set_option linter.unusedVariables false
set_option maxHeartbeats 4000000
set_option maxRecDepth 100000

/-- an atom as a use: its name, how many terms, and where they lie -/
abbrev AX := (ByteArray × Nat) × (Option Addr × Nat)
def axC (x : AX) : List Value := [.string x.1.1, .slice x.2.1 x.1.2 x.2.2]
def axsC (xs : List AX) : List Value := xs.flatMap axC
@[simp] theorem axC_length (x : AX) : (axC x).length = 2 := rfl
@[simp] theorem axsC_length (xs : List AX) : (axsC xs).length = xs.length * 2 := flat_len axC_length xs
theorem axsC_append (l m : List AX) : axsC (l ++ m) = axsC l ++ axsC m := by simp [axsC]
theorem rd_cellA {w : World} {a : Option Addr} {xs : List AX} (h : Rd w a (axsC xs)) {i : Nat} (hi : i < xs.length) :
    ∃ b o, a = some ⟨b, o, none⟩ ∧ w.cell? ⟨b, o + i * 2, none⟩ = some (.string xs[i].1.1) ∧ w.cell? ⟨b, o + i * 2 + 1, none⟩ = some (.slice xs[i].2.1 xs[i].1.2 xs[i].2.2) := by
  have h1 := flat_get (f := axC) (j := 0) axC_length (List.getElem?_eq_getElem hi) (by omega)
  have h2 := flat_get (f := axC) (j := 1) axC_length (List.getElem?_eq_getElem hi) (by omega)
  obtain ⟨b, o, e, q1⟩ := h (i * 2 + 0) _ (h1.trans rfl)
  obtain ⟨b', o', e', q2⟩ := h (i * 2 + 1) _ (h2.trans rfl)
  rw [e] at e'
  cases e'
  exact ⟨b, o, e, q1, by rw [Nat.add_assoc]; exact q2⟩
theorem tiA : TI Tryz.prog 210 43 2 40 := TI.mk' (z := .agg #[.string ByteArray.empty, .slice none 0 0]) (by kernel_rfl) (by kernel_rfl) rfl (by omega)
theorem map_snoc1 {xs : List AX} {l : Ar} {x : AX} (h : xs.map Prod.fst = l) : (xs ++ [x]).map Prod.fst = l ++ [x.1] := by rw [List.map_append, h]; rfl
theorem usesB_le (ls : List Lm) : (usesB ls).length ≤ ls.length := by unfold usesB; rw [List.length_map]; exact List.length_filter_le _ _
theorem usesB_take {ls : List Lm} {i : Nat} (h : i < ls.length) : usesB (ls.take (i + 1)) = usesB (ls.take i) ++ usesB [ls[i]] := by
  rw [List.take_succ_eq_append_getElem h]; unfold usesB; rw [List.filter_append, List.map_append]
theorem refUses_any (r : Rm) (s b : Value) (w : World) (ht : TsAt w s r.head.terms) (hl : LsAt w b r.body) (hn : r.body.length ≤ 2 ^ 20) :
    Calls Tryz.prog 126 #[rmV r s b] w fun e w' => ∃ a c xs, e = .returned (.slice a (usesL r).length c) ∧ xs.map Prod.fst = usesL r ∧ Rd w' a (axsC xs) ∧ (∀ x, blk a = some x → w.heap.size ≤ x) ∧ Mod (fun _ => False) w w' := by
  obtain ⟨⟨pr, hts⟩, ls⟩ := r
  rw [usesL_eq]
  unfold rmV
  simp only at *
  obtain ⟨sa, sc, rfl, _⟩ := ht
  obtain ⟨d1, k1, xs1, rfl, hx1, hr1, ht1⟩ := hl
  have HX1 := Lib.hid hx1; have HR1 := Lib.hid hr1; have HXT1 := Lib.hid ht1
  have hm0 : Mod (fun _ => False) w (w.alloc (.cells #[.string pr, .slice sa hts.length sc, .slice d1 ls.length k1] 46)) := (Mod.refl _ w).alloc _
  obtain ⟨hbr, hba⟩ := two_new w (.cells #[.string pr, .slice sa hts.length sc, .slice d1 ls.length k1] 46) (.cells #[.string pr, .slice sa hts.length sc] 43)
  have hO := Mine.Own.made (w.alloc (.cells #[.string pr, .slice sa hts.length sc, .slice d1 ls.length k1] 46)) 43 2 #[.string pr, .slice sa hts.length sc] 1 1 (by omega) (by unfold maxLen; omega) rfl
  have q0 := cell_new (w := w) (cs := #[.string pr, .slice sa hts.length sc, .slice d1 ls.length k1]) (e := 46) (j := 0) rfl rfl
  have q1 := cell_new (w := w) (cs := #[.string pr, .slice sa hts.length sc, .slice d1 ls.length k1]) (e := 46) (j := 1) rfl rfl
  rw [World.size_alloc] at hO
  have hm1 := hm0.alloc (.cells #[.string pr, .slice sa hts.length sc] 43)
  have HM0 := Lib.hid hm1; have HBR := Lib.hid hbr; have HO := Lib.hid hO
  clear hx1 hr1 ht1 hbr hba hO hm0 hm1
  go_enter Tryz.func126, Tryz.ntmps126
  go_wp2_with fail
  clear q0 q1
  obtain ⟨w0, hw0⟩ : ∃ v, v = (w.alloc (.cells #[.string pr, .slice sa hts.length sc, .slice d1 ls.length k1] 46)).alloc (.cells #[.string pr, .slice sa hts.length sc] 43) := ⟨_, rfl⟩
  rw [← hw0] at HM0 HBR HO ⊢
  have hz0 : w.heap.size + 2 ≤ w0.heap.size := by rw [hw0]; simp
  clear hw0
  go_loopw [3, 4] (fun lv iv wr => ∃ (i : Nat) (a : Option Addr) (c : Nat) (xs : List AX), lv = .slice a xs.length c ∧ iv = .int .i64 i ∧ i ≤ ls.length ∧ Hid (Mine.Own wr 43 2 a xs.length c (axsC xs)) ∧
      Hid (xs.map Prod.fst = (pr, hts.length) :: usesB (ls.take i)) ∧ Hid (∀ x, blk a = some x → w.heap.size + 1 ≤ x) ∧ Hid (Mod (fun _ => False) w wr) ∧ Hid (wr.heap[w.heap.size]? = some (.cells #[.string pr, .slice sa hts.length sc, .slice d1 ls.length k1] 46 (0, 0)))) (fun _ iv _ => ls.length - (intOf iv).toNat)
  case atStart => exact ⟨0, some ⟨w.heap.size + 1, 0, none⟩, 1, [((pr, hts.length), (sa, sc))], rfl, rfl, Nat.zero_le _, HO, rfl, Lib.hid (fun x h => by simp at h; omega), HM0, HBR⟩
  case round =>
    obtain ⟨i, a, c, xs, rfl, rfl, hi, hO, hU, hF, hM, hB⟩ := hrel
    have q2 := cell_at (j := 2) hB.out rfl
    have hxl : xs.length ≤ 1 + ls.length := by
      have h1 := congrArg List.length hU.out
      have h2 := usesB_le (ls.take i)
      rw [List.length_take] at h2
      simp at h1; omega
    by_cases hlt : i < ls.length
    · obtain ⟨sk1, hx1, hmem1⟩ := xs_get HX1.out hlt
      obtain ⟨b1, o1, rfl, x0, x1, x2, x3, x4, x5, x6, x7⟩ := rd_cell8 (HR1.out.mod hM.out (fun _ _ => id)) hx1
      obtain ⟨sl, slc, hsk, hrt⟩ := HXT1.out _ hmem1
      simp only at hsk
      subst hsk
      have HBT := Lib.hid (usesB_take hlt)
      clear hx1 hmem1 hrt x3 x4 x5 x6 x7
      generalize usesB (ls.take i) = pre at *
      generalize ls[i] = t at *
      obtain ⟨lk, ⟨lp, lts⟩, lo, ⟨ll1, ll2⟩, ⟨lr1, lr2⟩⟩ := t
      simp only at *
      by_cases h12 : lk = 1 ∨ lk = 2
      · have HB2 := Lib.hid (HBT.out.trans (by rw [usesB_yes _ (by exact h12)]; rfl : _ = pre ++ [(lp, lts.length)]))
        rcases h12 with rfl | rfl
        all_goals
          go_wp2_with (at_builtin; refine wpL_appendN (us := [.string lp, .slice sl lts.length slc]) rfl (.tmp 31) (.tmp 38) 210 rfl tiA rfl hO.out rfl rfl rfl (by omega) (by unfold maxLen; omega) ?_; intro a3 c3 w3 hO3 hG3 _; have HO3 := Lib.hid hO3; have HG3 := Lib.hid hG3; clear hO3 hG3)
          go_roundw
          case rel =>
            refine ⟨i + 1, a3, c3, xs ++ [((lp, lts.length), (sl, slc))], by simp, by go_num, hlt, ?_, ?_, Lib.hid (fun x hx => ?_), Lib.hid (hM.out.step HG3.out.mod (fun j hj e => by have := hF.out j e; omega)), Lib.hid (HG3.out.mod.at hB.out (fun e => by have := hF.out _ e; omega))⟩
            · unfold Hid
              rw [axsC_append, List.length_append]
              exact HO3.out
            · unfold Hid
              rw [HB2.out]
              exact map_snoc1 hU.out
            · rcases HG3.out.pos with e | ⟨b, e, hb⟩
              · exact hF.out x (by rw [← e]; exact hx)
              · rw [e] at hx; cases hx
                have := (Array.getElem?_eq_some_iff.1 hB.out).1
                omega
          case measure => simp [intOf]; omega
      · have HB2 := Lib.hid (HBT.out.trans (by rw [usesB_no _ (by exact h12)]; simp [usesB] : _ = pre))
        have e1 : (lk == 1) = false := by simp; omega
        have e2 : (lk == 2) = false := by simp; omega
        have k1 : ¬ lk = 1 := by omega
        have k2 : ¬ lk = 2 := by omega
        clear h12
        go_wp2_with fail
        go_roundw
        case rel => exact ⟨i + 1, a, c, xs, rfl, by go_num, hlt, hO, by unfold Hid; rw [HB2.out]; exact hU.out, hF, hM, hB⟩
        case measure => simp [intOf]; omega
    · obtain rfl : i = ls.length := by omega
      have hu := hU.out
      rw [List.take_length] at hu
      have HU := Lib.hid hu
      have hlen : xs.length = ((pr, hts.length) :: usesB ls).length := by rw [← hu, List.length_map]
      have HL := Lib.hid hlen
      clear hu hU hlen
      go_wp2_with fail
      go_ret
      have hl2 := HL.out
      simp only [List.length_cons] at hl2
      exact ⟨a, c, xs, by simp only; rw [← hl2]; rfl, HU.out, hO.out.rd, fun x hx => by have := hF.out x hx; omega, hM.out⟩

/-- predicates: a name, its arity, its rules -/
abbrev Pd := ByteArray × Nat × Nat
def pdC (x : Pd) : List Value := [.string x.1, .int .i64 x.2.1, .int .i64 x.2.2]
def pdsC (xs : List Pd) : List Value := xs.flatMap pdC
@[simp] theorem pdC_length (x : Pd) : (pdC x).length = 3 := rfl
@[simp] theorem pdsC_length (xs : List Pd) : (pdsC xs).length = xs.length * 3 := flat_len pdC_length xs
theorem pdsC_append (l m : List Pd) : pdsC (l ++ m) = pdsC l ++ pdsC m := by simp [pdsC]
theorem rd_cellP {w : World} {a : Option Addr} {xs : List Pd} (h : Rd w a (pdsC xs)) {i : Nat} (hi : i < xs.length) :
    ∃ b o, a = some ⟨b, o, none⟩ ∧ w.cell? ⟨b, o + i * 3, none⟩ = some (.string xs[i].1) ∧ w.cell? ⟨b, o + i * 3 + 1, none⟩ = some (.int .i64 xs[i].2.1) ∧ w.cell? ⟨b, o + i * 3 + 2, none⟩ = some (.int .i64 xs[i].2.2) := by
  have h1 := flat_get (f := pdC) (j := 0) pdC_length (List.getElem?_eq_getElem hi) (by omega)
  have h2 := flat_get (f := pdC) (j := 1) pdC_length (List.getElem?_eq_getElem hi) (by omega)
  have h3 := flat_get (f := pdC) (j := 2) pdC_length (List.getElem?_eq_getElem hi) (by omega)
  obtain ⟨b, o, e, q1⟩ := h (i * 3 + 0) _ (h1.trans rfl)
  obtain ⟨b', o', e', q2⟩ := h (i * 3 + 1) _ (h2.trans rfl)
  obtain ⟨b2, o2, e2, q3⟩ := h (i * 3 + 2) _ (h3.trans rfl)
  rw [e] at e' e2
  cases e'
  cases e2
  exact ⟨b, o, e, q1, by rw [Nat.add_assoc]; exact q2, by rw [Nat.add_assoc]; exact q3⟩
theorem tiPd : TI Tryz.prog 64 134 3 32 := TI.mk' (z := .agg #[.string ByteArray.empty, .int .i64 0, .int .i64 0]) (by kernel_rfl) (by kernel_rfl) rfl (by omega)
/-- what names and arities a list of predicates holds -/
def arP (L : List Pd) : Ar := L.map fun x => (x.1, x.2.1)
def notePd (L : List Pd) (x : ByteArray × Nat) : List Pd := if (arOf (arP L) x.1).isSome = true then L else L ++ [(x.1, x.2, 0)]
theorem arP_note (L : List Pd) (x : ByteArray × Nat) : arP (notePd L x) = noteL (arP L) x := by
  unfold notePd noteL
  cases arOf (arP L) x.1 with
  | none => simp [arP]
  | some n => rfl
theorem arOf_drop {L : List Pd} {x : ByteArray} {i : Nat} (hi : i < L.length) (h : arOf (arP L) x = arOf (arP (L.drop i)) x) (hn : L[i].1 ≠ x) : arOf (arP L) x = arOf (arP (L.drop (i + 1))) x := by
  rw [h, List.drop_eq_getElem_cons hi]
  unfold arP
  rw [List.map_cons, arOf_cons, if_neg hn]
theorem arOf_here {L : List Pd} {x : ByteArray} {i : Nat} (hi : i < L.length) (h : arOf (arP L) x = arOf (arP (L.drop i)) x) (hn : L[i].1 = x) : arOf (arP L) x = some L[i].2.1 := by
  rw [h, List.drop_eq_getElem_cons hi]
  unfold arP
  rw [List.map_cons, arOf_cons, if_pos hn]
theorem note_any (a : Option Addr) (c : Nat) (L : List Pd) (x : ByteArray) (n : Nat) (w : World) (ho : Mine.Own w 134 3 a L.length c (pdsC L)) (hl : L.length ≤ 2 ^ 41 + 2 ^ 30) :
    Calls Tryz.prog 72 #[.slice a L.length c, .string x, .int .i64 n] w fun e w' => ∃ a' c', e = .returned (.tuple #[.slice a' (notePd L (x, n)).length c', .bool (fitsL (arP L) (x, n))]) ∧ Mine.Own w' 134 3 a' (notePd L (x, n)).length c' (pdsC (notePd L (x, n))) ∧ Grow w a w' a' := by
  have HO := Lib.hid ho
  have hr := ho.rd
  have HR := Lib.hid hr
  obtain ⟨X, hX⟩ : ∃ X, X = notePd L (x, n) := ⟨_, rfl⟩
  obtain ⟨Y, hY⟩ : ∃ Y, Y = fitsL (arP L) (x, n) := ⟨_, rfl⟩
  rw [← hX, ← hY]
  have HX := Lib.hid hX; have HY := Lib.hid hY
  clear ho hr hX hY
  go_enter Tryz.func72, Tryz.ntmps72
  go_wp2
  go_loop [8] (fun iv => ∃ i : Nat, iv = .int .i64 i ∧ i ≤ L.length ∧ Hid (arOf (arP L) x = arOf (arP (L.drop i)) x)) (fun iv => L.length - (intOf iv).toNat)
  case atStart => exact ⟨0, rfl, Nat.zero_le _, rfl⟩
  case round =>
    obtain ⟨i, rfl, hi, hI⟩ := hrel
    by_cases hlt : i < L.length
    · obtain ⟨b, o, rfl, x0, x1, _⟩ := rd_cellP HR.out hlt
      have HH := Lib.hid (arOf_here hlt hI.out)
      have HD := Lib.hid (arOf_drop hlt hI.out)
      generalize L[i] = t at *
      obtain ⟨tn, ta, tr⟩ := t
      simp only at x0 x1 HH HD
      by_cases hx : tn = x
      · subst hx
        have ha := HH.out rfl
        have e1 : X = L := by rw [HX.out]; unfold notePd; rw [ha]; rfl
        have e2 : Y = decide (ta = n) := by rw [HY.out]; unfold fitsL; rw [ha]
        clear ha HX HY
        subst e1 e2
        go_wp2
        refine wp_region_ord (fun W => W.cell? ⟨b, o + i * 3 + 1, none⟩ = some (.int .i64 ta)) [(0, 0), (0, 1), (0, 2), (0, 3), (0, 4), (0, 6), (0, 8), (3, 5), (0, 7), (0, 9)] (by kernel_rfl) (by kernel_rfl) ?_
        go_wp2_with (first
          | (refine ord_pure rfl rfl rfl (fun K hK => ?_); go_big_quiet_op; refine hK _ ?_; clear hK K)
                                                                | (refine ord_skip rfl rfl ?_; simp only [Act.put, List.setIfInBounds_toArray, List.set_cons_zero, List.set_cons_succ])
                                                                | (refine ord_held rfl rfl rfl (x1) (fun K hK => ?_); apply Exists.intro; refine ⟨fun w' hs => ?_, hK _ ?_⟩; (revert hs; dsimp only; (try simp only [and_imp]); intros; go_simp; rfl); clear hK K)
                                                                | (refine ord_keep rfl rfl (x1) (fun K hK => ?_))
                                                                | (refine ord_drop rfl rfl (fun K hK => ?_))
                                                                | (refine ord_nil ?_))
        exact bodyPost_ret (results_tmp2 rfl _ _ _) rfl ⟨_, _, by simp [Bool.beq_eq_decide_eq]; omega, HO.out.drew, ⟨(Mod.refl _ w).drew, .inl rfl⟩⟩
      · have hb : (tn.toList == x.toList) = false := by rw [baEq, decide_eq_false hx]
        have HD2 := Lib.hid (HD.out hx)
        go_wp2
        go_round
        case rel => exact ⟨i + 1, by go_num, hlt, HD2⟩
        case measure => simp [intOf]; omega
    · obtain rfl : i = L.length := by omega
      have ha := hI.out
      rw [List.drop_length] at ha
      have ha2 : arOf (arP L) x = none := ha
      have e1 : X = L ++ [(x, n, 0)] := by rw [HX.out]; unfold notePd; rw [ha2]; rfl
      have e2 : Y = true := by rw [HY.out]; unfold fitsL; rw [ha2]
      have e3 : X.length = L.length + 1 := by rw [e1]; simp
      have HE1 := Lib.hid e1; have HE3 := Lib.hid e3
      clear HX HY ha ha2 e1 e3
      subst e2
      go_wp2_with (at_builtin; refine wpL_appendN (us := [.string x, .int .i64 n, .int .i64 0]) rfl (.tmp 30) (.tmp 34) 64 rfl tiPd rfl HO.out rfl rfl rfl (by omega) (by unfold maxLen; omega) ?_; intro a3 c3 w3 hO3 hG3 _; have HO3 := Lib.hid hO3; have HG3 := Lib.hid hG3; clear hO3 hG3)
      exact bodyPost_ret (results_tmp2 rfl _ _ _) rfl ⟨a3, c3, by rw [HE3.out]; rfl, by rw [HE3.out, HE1.out, pdsC_append]; exact HO3.out, HG3.out⟩
end Go.Proofs.YteecbbnpgmceiaaGreatDoor
