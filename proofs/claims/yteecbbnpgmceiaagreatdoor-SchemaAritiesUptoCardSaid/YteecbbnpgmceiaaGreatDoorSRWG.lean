/-
  The document's note at whole numbers; its rising.
-/
import Derived.Test.YteecbbnpgmceiaaGreatDoorSWith
import Derived.Test.YteecbbnpgmceiaaGreatDoorSchR4
import Derived.Test.YteecbbnpgmceiaaGreatDoorSch6
namespace Go.Proofs.YteecbbnpgmceiaaGreatDoor
open Go Go.RowKit Go.Mine
set_option linter.unusedVariables false
set_option maxHeartbeats 4000000
set_option maxRecDepth 100000

def arPZ (L : List PdZ) : ArZ := L.map fun x => (x.1, x.2.1)
def notePZ (L : List PdZ) (x : ByteArray × Int) : List PdZ := if (arZ (arPZ L) x.1).isSome = true then L else L ++ [(x.1, x.2, 0)]
theorem notePZ_len (L : List PdZ) (x : ByteArray × Int) : (notePZ L x).length ≤ L.length + 1 := by
  unfold notePZ
  split
  · omega
  · simp
theorem arZ_dropP {L : List PdZ} {x : ByteArray} {i : Nat} (hi : i < L.length) (h : arZ (arPZ L) x = arZ (arPZ (L.drop i)) x) (hn : L[i].1 ≠ x) : arZ (arPZ L) x = arZ (arPZ (L.drop (i + 1))) x := by
  rw [h, List.drop_eq_getElem_cons hi]
  unfold arPZ
  rw [List.map_cons, arZ_cons, if_neg hn]
theorem arZ_hereP {L : List PdZ} {x : ByteArray} {i : Nat} (hi : i < L.length) (h : arZ (arPZ L) x = arZ (arPZ (L.drop i)) x) (hn : L[i].1 = x) : arZ (arPZ L) x = some L[i].2.1 := by
  rw [h, List.drop_eq_getElem_cons hi]
  unfold arPZ
  rw [List.map_cons, arZ_cons, if_pos hn]
theorem notePZ_any (a : Option Addr) (c : Nat) (L : List PdZ) (x : ByteArray) (n : Int) (w : World) (ho : Mine.Own w 134 3 a L.length c (pzsC L)) (hl : L.length ≤ 2 ^ 41 + 2 ^ 40) :
    Calls Tryz.prog 72 #[.slice a L.length c, .string x, .int .i64 n] w fun e w' => ∃ a' c', e = .returned (.tuple #[.slice a' (notePZ L (x, n)).length c', .bool (fitsZ (arPZ L) (x, n))]) ∧ Mine.Own w' 134 3 a' (notePZ L (x, n)).length c' (pzsC (notePZ L (x, n))) ∧ Grow w a w' a' := by
  have HO := Lib.hid ho
  have hr := ho.rd
  have HR := Lib.hid hr
  obtain ⟨X, hX⟩ : ∃ X, X = notePZ L (x, n) := ⟨_, rfl⟩
  obtain ⟨Y, hY⟩ : ∃ Y, Y = fitsZ (arPZ L) (x, n) := ⟨_, rfl⟩
  rw [← hX, ← hY]
  have HX := Lib.hid hX; have HY := Lib.hid hY
  clear ho hr hX hY
  go_enter Tryz.func72, Tryz.ntmps72
  go_wp2
  go_loop [8] (fun iv => ∃ i : Nat, iv = .int .i64 i ∧ i ≤ L.length ∧ Hid (arZ (arPZ L) x = arZ (arPZ (L.drop i)) x)) (fun iv => L.length - (intOf iv).toNat)
  case atStart => exact ⟨0, rfl, Nat.zero_le _, rfl⟩
  case round =>
    obtain ⟨i, rfl, hi, hI⟩ := hrel
    by_cases hlt : i < L.length
    · obtain ⟨b, o, rfl, x0, x1, _⟩ := rd_cellZ HR.out hlt
      have HH := Lib.hid (arZ_hereP hlt hI.out)
      have HD := Lib.hid (arZ_dropP hlt hI.out)
      generalize L[i] = t at *
      obtain ⟨tn, ta, tr⟩ := t
      simp only at x0 x1 HH HD
      by_cases hx : tn = x
      · subst hx
        have ha := HH.out rfl
        have e1 : X = L := by rw [HX.out]; unfold notePZ; rw [ha]; rfl
        have e2 : Y = decide (ta = n) := by rw [HY.out]; unfold fitsZ; rw [ha]
        clear ha HX HY
        subst e1 e2
        go_wp2
        refine wp_region_ord (fun W => W.cell? ⟨b, o + i * 3 + 1, none⟩ = some (.int .i64 ta)) [(0, 0), (0, 1), (0, 2), (0, 3), (0, 4), (0, 6), (0, 8), (3, 5), (0, 7), (0, 9)] (by kernel_rfl) (by kernel_rfl) ?_
        go_wp2_with (first
          | (refine ord_pure rfl rfl rfl (fun K hK => ?_); go_big_quiet_op; refine hK _ ?_; clear hK K)
                                                                | (refine ord_skip rfl rfl ?_; simp only [Act.put, List.setIfInBounds_toArray, List.set_cons_zero, List.set_cons_succ])
                                                                | (refine ord_held rfl rfl rfl (x1) (fun K hK => ?_); apply Exists.intro; refine ⟨fun w' hs => ?_, hK _ ?_⟩; (revert hs; dsimp only; (try simp only [and_imp]); intros; go_simp; rfl); clear hK K)
                                                                | (refine ord_keep rfl rfl (x1) (fun K hK => ?_))
                                                                | (refine ord_drop rfl rfl (fun K hK => ?_))
                                                                | (refine ord_nil ?_))
        exact bodyPost_ret (results_tmp2 rfl _ _ _) rfl ⟨_, _, by simp [Bool.beq_eq_decide_eq], HO.out.drew, ⟨(Mod.refl _ w).drew, .inl rfl⟩⟩
      · have hb : (tn.toList == x.toList) = false := by rw [baEq, decide_eq_false hx]
        have HD2 := Lib.hid (HD.out hx)
        go_wp2
        go_round
        case rel => exact ⟨i + 1, by go_num, hlt, HD2⟩
        case measure => simp [intOf]; omega
    · obtain rfl : i = L.length := by omega
      have ha := hI.out
      rw [List.drop_length] at ha
      have ha2 : arZ (arPZ L) x = none := ha
      have e1 : X = L ++ [(x, n, 0)] := by rw [HX.out]; unfold notePZ; rw [ha2]; rfl
      have e2 : Y = true := by rw [HY.out]; unfold fitsZ; rw [ha2]
      have e3 : X.length = L.length + 1 := by rw [e1]; simp
      have HE1 := Lib.hid e1; have HE3 := Lib.hid e3
      clear HX HY ha ha2 e1 e3
      subst e2
      go_wp2_with (at_builtin; refine wpL_appendN (us := [.string x, .int .i64 n, .int .i64 0]) rfl (.tmp 30) (.tmp 34) 64 rfl tiPd rfl HO.out rfl rfl rfl (by omega) (by unfold maxLen; omega) ?_; intro a3 c3 w3 hO3 hG3 _; have HO3 := Lib.hid hO3; have HG3 := Lib.hid hG3; clear hO3 hG3)
      exact bodyPost_ret (results_tmp2 rfl _ _ _) rfl ⟨a3, c3, by rw [HE3.out]; rfl, by rw [HE3.out, HE1.out, pzsC_append]; exact HO3.out, HG3.out⟩

/-- the one of a name; all, by names -/
def byN (l : List PdZ) (x : ByteArray) : PdZ := (l.find? fun y => decide (y.1 = x)).getD (x, 0, 0)
theorem byN_get {l : List PdZ} (hn : (l.map (·.1)).Nodup) {i : Nat} (hi : i < l.length) : byN l l[i].1 = l[i] := by
  unfold byN
  have h1 : l.find? (fun y => decide (y.1 = l[i].1)) = some l[i] := by
    rw [List.find?_eq_some_iff_getElem]
    refine ⟨by simp, i, hi, rfl, fun j hj => ?_⟩
    have h2 := List.pairwise_iff_getElem.1 (List.pairwise_map.1 hn) j i (by omega) hi hj
    simpa using h2
  rw [h1]; rfl
def risingL (l : List PdZ) : List PdZ := (sortN (l.map (·.1))).map (byN l)
theorem risingL_len (l : List PdZ) : (risingL l).length = l.length := by unfold risingL; rw [List.length_map, (sortN_perm _).length_eq, List.length_map]
/-- may the j-th come, where the last that came is this? -/
def elig (q : Option ByteArray) (x : ByteArray) : Prop := ∀ y, q = some y → bl y < bl x
/-- the best so far of the first i -/
def BestI (l : List PdZ) (q : Option ByteArray) (i : Nat) : Option Nat → Prop
  | none => ∀ j (h : j < l.length), j < i → ¬ elig q l[j].1
  | some b => b < i ∧ ∃ hb : b < l.length, elig q l[b].1 ∧ ∀ j (h : j < l.length), j < i → elig q l[j].1 → ¬ bl l[j].1 < bl l[b].1
theorem best_skip {l : List PdZ} {q : Option ByteArray} {i : Nat} (hi : i < l.length) {b : Option Nat} (h : BestI l q i b) (hn : ¬ elig q l[i].1 ∨ ∃ b', b = some b' ∧ ∃ hb : b' < l.length, ¬ bl l[i].1 < bl l[b'].1) : BestI l q (i + 1) b := by
  cases b with
  | none =>
    intro j hj hji
    by_cases e : j = i
    · subst e
      rcases hn with hn | ⟨b', e, _⟩
      · exact hn
      · cases e
    · exact h j hj (by omega)
  | some b =>
    obtain ⟨h1, hb, h2, h3⟩ := h
    refine ⟨by omega, hb, h2, fun j hj hji he => ?_⟩
    by_cases e : j = i
    · subst e
      rcases hn with hn | ⟨b', e, hb', hn⟩
      · exact absurd he hn
      · cases e; exact hn
    · exact h3 j hj (by omega) he
theorem best_take {l : List PdZ} {q : Option ByteArray} {i : Nat} (hi : i < l.length) {b : Option Nat} (h : BestI l q i b) (he : elig q l[i].1) (hn : b = none ∨ ∃ b', b = some b' ∧ ∃ hb : b' < l.length, bl l[i].1 < bl l[b'].1) : BestI l q (i + 1) (some i) := by
  refine ⟨by omega, hi, he, fun j hj hji hej => ?_⟩
  by_cases e : j = i
  · subst e; exact List.lt_irrefl _
  · rcases hn with rfl | ⟨b', rfl, hb', hlt⟩
    · exact absurd hej (h j hj (by omega))
    · obtain ⟨_, _, _, h3⟩ := h
      intro hh
      exact h3 j hj (by omega) hej (List.lt_trans hh hlt)
theorem best_end {l : List PdZ} (hn : (l.map (·.1)).Nodup) {k : Nat} (hk : k < l.length) {q : Option ByteArray} (hq : q = if k = 0 then none else (sortN (l.map (·.1)))[k - 1]?) {b : Option Nat} (h : BestI l q l.length b) : ∃ b', b = some b' ∧ ∃ hb : b' < l.length, (risingL l)[k]? = some l[b'] := by
  have hr := sortN_rising hn
  have hp := sortN_perm (l.map (·.1))
  have hl : (sortN (l.map (·.1))).length = l.length := by rw [hp.length_eq, List.length_map]
  have hrl : ∀ m x, (sortN (l.map (·.1)))[m]? = some x → (risingL l)[m]? = some (byN l x) := fun m x hx => by unfold risingL; rw [List.getElem?_map, hx]; rfl
  generalize hN : sortN (l.map (·.1)) = N at *
  have hkN : k < N.length := by omega
  have hmem : N[k] ∈ l.map (·.1) := hp.mem_iff.1 (List.getElem_mem hkN)
  obtain ⟨p, hp1, hp2⟩ := List.mem_map.1 hmem
  obtain ⟨j, hj, rfl⟩ := List.getElem_of_mem hp1
  have hpw := List.pairwise_iff_getElem.1 hr
  have hej : elig q l[j].1 := by
    intro y hy
    rw [hq] at hy
    by_cases h0 : k = 0
    · rw [if_pos h0] at hy; cases hy
    · rw [if_neg h0, List.getElem?_eq_getElem (by omega)] at hy
      cases hy
      rw [hp2]
      exact hpw (k - 1) k (by omega) hkN (by omega)
  cases b with
  | none => exact absurd hej (h j hj hj)
  | some b =>
    obtain ⟨_, hb, h2, h3⟩ := h
    have h4 := h3 j hj hj hej
    rw [hp2] at h4
    have hbm : l[b].1 ∈ N := hp.mem_iff.2 (List.mem_map.2 ⟨l[b], List.getElem_mem hb, rfl⟩)
    obtain ⟨m, hm, hme⟩ := List.getElem_of_mem hbm
    have hmk : k ≤ m := by
      by_cases h0 : k = 0
      · omega
      · by_cases hlt : m < k
        · exfalso
          have h5 := h2 N[k - 1] (by rw [hq, if_neg h0, List.getElem?_eq_getElem (by omega)])
          rw [← hme] at h5
          by_cases e : m = k - 1
          · subst e; exact List.lt_irrefl _ h5
          · exact List.lt_irrefl _ (List.lt_trans h5 (hpw m (k - 1) hm (by omega) (by omega)))
        · omega
    have hmke : m = k := by
      by_cases e : m = k
      · exact e
      · exfalso
        have := hpw k m hkN hm (by omega)
        rw [hme] at this
        exact h4 this
    subst hmke
    refine ⟨b, rfl, hb, ?_⟩
    rw [hrl m l[b].1 (by rw [List.getElem?_eq_getElem hm, hme]), byN_get hn hb]
end Go.Proofs.YteecbbnpgmceiaaGreatDoor
/-
  The document's rising, walked; preds.
-/
namespace Go.Proofs.YteecbbnpgmceiaaGreatDoor
open Go Go.RowKit Go.Mine
set_option linter.unusedVariables false
set_option maxHeartbeats 4000000
set_option maxRecDepth 100000

theorem byN_name (l : List PdZ) (x : ByteArray) : (byN l x).1 = x := by
  unfold byN
  cases h : l.find? (fun y => decide (y.1 = x)) with
  | none => rfl
  | some y =>
    have := List.find?_some h
    simpa using this
theorem gtr_not (x y : ByteArray) : (!(Op.bytesLess x.toList y.toList || x.toList == y.toList)) = decide (bl y < bl x) := by
  have e1 : x.toList = bl x := ByteArray.toList_eq x
  have e2 : y.toList = bl y := ByteArray.toList_eq y
  rw [e1, e2, bytesLess_eq, Bool.eq_iff_iff]
  simp only [Bool.not_eq_true', Bool.or_eq_false_iff, decide_eq_false_iff_not, beq_eq_false_iff_ne, decide_eq_true_eq]
  constructor
  · rintro ⟨h1, h2⟩
    rcases List.le_iff_lt_or_eq.1 (List.not_lt.1 h1) with h | h
    · exact h
    · exact absurd h.symm h2
  · intro h
    exact ⟨fun h1 => List.lt_irrefl _ (List.lt_trans h h1), fun e => by rw [e] at h; exact List.lt_irrefl _ h⟩
theorem lss_dec (x y : ByteArray) : Op.bytesLess x.toList y.toList = decide (bl x < bl y) := by
  have e1 : x.toList = bl x := ByteArray.toList_eq x
  have e2 : y.toList = bl y := ByteArray.toList_eq y
  rw [e1, e2, bytesLess_eq]
def bestV : Option Nat → Int
  | none => -1
  | some b => b
def lenV : Value → Nat
  | .slice _ n _ => n
  | _ => 0
theorem rising_any (l : List PdZ) (a : Option Addr) (c : Nat) (w : World) (hR : Rd w a (pzsC l)) (hn : (l.map (·.1)).Nodup) (hl : l.length ≤ 2 ^ 41 + 2 ^ 40) :
    Calls Tryz.prog 73 #[.slice a l.length c] w fun e w' => ∃ a' c', e = .returned (.slice a' l.length c') ∧ Mine.Own w' 134 3 a' l.length c' (pzsC (risingL l)) ∧ Grow w none w' a' := by
  have HR := Lib.hid hR; have HND := Lib.hid hn
  clear hR hn
  go_enter Tryz.func73, Tryz.ntmps73
  go_wp2_with fail
  go_loopw [3] (fun ov wr => ∃ (k : Nat) (a1 : Option Addr) (c1 : Nat), ov = .slice a1 k c1 ∧ k ≤ l.length ∧ Hid (Mine.Own wr 134 3 a1 k c1 (pzsC ((risingL l).take k))) ∧ Hid (Grow w none wr a1)) (fun ov _ => l.length - lenV ov)
  case atStart => exact ⟨0, none, 0, rfl, Nat.zero_le _, Lib.hid (Own.nil w _ _), Lib.hid (Grow.refl _ _)⟩
  case round =>
    obtain ⟨k, a1, c1, rfl, hk, hO, hG⟩ := hrel
    by_cases hlt : k < l.length
    · obtain ⟨wk, hwk⟩ : ∃ v, v = wr := ⟨_, rfl⟩
      rw [← hwk] at hO hG ⊢
      clear hwk
      obtain ⟨q, hq⟩ : ∃ q : Option ByteArray, q = if k = 0 then none else (sortN (l.map (·.1)))[k - 1]? := ⟨_, rfl⟩
      have HQ := Lib.hid hq
      clear hq
      go_wp2_with fail
      go_loopw [4, 5] (fun bv iv wr => ∃ (i : Nat) (b : Option Nat), bv = .int .i64 (bestV b) ∧ iv = .int .i64 i ∧ i ≤ l.length ∧ Hid (BestI l q i b) ∧ Hid (Mod (fun _ => False) wk wr)) (fun _ iv _ => l.length - (intOf iv).toNat)
      case atStart => exact ⟨0, none, rfl, rfl, Nat.zero_le _, Lib.hid (fun j h hj => by omega), Lib.hid (Mod.refl _ _)⟩
      case round =>
        obtain ⟨i, b, rfl, rfl, hi, hB, hMi⟩ := hrel
        by_cases hit : i < l.length
        · obtain ⟨b1, o1, rfl, x0, _, _⟩ := rd_cellZ ((HR.out.mod hG.out.mod0 (fun _ _ => id)).mod hMi.out (fun _ _ => id)) hit
          have HTK := Lib.hid (fun he hn => best_take hit hB.out he hn)
          have HSK := Lib.hid (fun hn => best_skip hit hB.out hn)
          by_cases hk0 : k = 0
          · have hqn : q = none := by rw [HQ.out, if_pos hk0]
            have hel : elig q l[i].1 := fun y hy => by rw [hqn] at hy; cases hy
            have HEL := Lib.hid hel
            clear hqn hel
            have ek : ((k : Int) == 0) = true := by simp [hk0]
            clear hk0
            cases b with
            | none =>
              unfold bestV
              generalize l[i].1 = xi at *
              go_wp2_with fail
              refine wp_region_ord (fun W => W.cell? ⟨b1, o1 + i * 3, none⟩ = some (.string xi)) [(0, 0), (0, 1), (0, 2), (0, 3), (0, 4), (0, 5), (0, 6), (0, 7), (1, 8), (0, 9), (0, 10), (0, 11), (0, 12), (0, 13), (0, 14), (1, 15), (0, 16), (0, 17), (0, 18), (0, 19), (0, 20), (0, 21), (0, 22), (0, 23), (0, 24), (0, 25), (1, 26), (0, 27), (0, 28), (0, 29), (0, 30), (1, 31), (0, 32), (0, 33), (0, 34)] (by kernel_rfl) (by kernel_rfl) ?_
              go_wp2_with (first
                | (refine ord_pure rfl rfl rfl (fun K hK => ?_); go_big_quiet_op; refine hK _ ?_; clear hK K)
                                                                | (refine ord_skip rfl rfl ?_; simp only [Act.put, List.setIfInBounds_toArray, List.set_cons_zero, List.set_cons_succ])
                                                                | (refine ord_held rfl rfl rfl (x0) (fun K hK => ?_); apply Exists.intro; refine ⟨fun w' hs => ?_, hK _ ?_⟩; (revert hs; dsimp only; (try simp only [and_imp]); intros; go_simp; rfl); clear hK K)
                                                                | (refine ord_keep rfl rfl (x0) (fun K hK => ?_))
                                                                | (refine ord_drop rfl rfl (fun K hK => ?_))
                                                                | (refine ord_nil ?_))
              go_roundw
              case rel => exact ⟨i + 1, some i, rfl, by go_num, hit, Lib.hid (HTK.out HEL.out (.inl (by simp))), Lib.hid hMi.out.drew⟩
              case measure => simp [intOf]; omega
            | some b' =>
              obtain ⟨hbi, hb', _⟩ := id hB.out
              obtain ⟨b2, o2, e2, y0, _, _⟩ := rd_cellZ ((HR.out.mod hG.out.mod0 (fun _ _ => id)).mod hMi.out (fun _ _ => id)) hb'
              cases e2
              unfold bestV
              by_cases hcmp : bl l[i].1 < bl l[b'].1
              · have hc := (lss_dec l[i].1 l[b'].1).trans (decide_eq_true hcmp)
                have HN2 := Lib.hid (HTK.out HEL.out (.inr ⟨b', rfl, hb', hcmp⟩))
                clear hcmp
                generalize l[i].1 = xi at *
                generalize l[b'].1 = xb at *
                go_wp2_with fail
                refine wp_region_ord (fun W => W.cell? ⟨b1, o1 + i * 3, none⟩ = some (.string xi) ∧ W.cell? ⟨b1, o1 + b' * 3, none⟩ = some (.string xb)) [(0, 0), (0, 1), (0, 2), (0, 3), (0, 4), (0, 5), (0, 6), (0, 7), (1, 8), (0, 9), (0, 10), (0, 11), (0, 12), (0, 13), (0, 14), (1, 15), (0, 16), (0, 17), (0, 18), (0, 19), (0, 20), (0, 21), (0, 22), (0, 23), (0, 24), (0, 25), (1, 26), (0, 27), (0, 28), (0, 29), (0, 30), (1, 31), (0, 32), (0, 33), (0, 34)] (by kernel_rfl) (by kernel_rfl) ?_
                go_wp2_with (first
                  | (refine ord_pure rfl rfl rfl (fun K hK => ?_); go_big_quiet_op; refine hK _ ?_; clear hK K)
                                                                | (refine ord_skip rfl rfl ?_; simp only [Act.put, List.setIfInBounds_toArray, List.set_cons_zero, List.set_cons_succ])
                                                                | (refine ord_held rfl rfl rfl (⟨x0, y0⟩) (fun K hK => ?_); apply Exists.intro; refine ⟨fun w' hs => ?_, hK _ ?_⟩; (revert hs; dsimp only; (try simp only [and_imp]); intros; go_simp; rfl); clear hK K)
                                                                | (refine ord_keep rfl rfl (⟨x0, y0⟩) (fun K hK => ?_))
                                                                | (refine ord_drop rfl rfl (fun K hK => ?_))
                                                                | (refine ord_nil ?_))
                go_roundw
                case rel => exact ⟨i + 1, some i, rfl, by go_num, hit, HN2, Lib.hid hMi.out.drew⟩
                case measure => simp [intOf]; omega
              · have hc := (lss_dec l[i].1 l[b'].1).trans (decide_eq_false hcmp)
                have HN2 := Lib.hid (HSK.out (.inr ⟨b', rfl, hb', hcmp⟩))
                clear hcmp
                generalize l[i].1 = xi at *
                generalize l[b'].1 = xb at *
                go_wp2_with fail
                refine wp_region_ord (fun W => W.cell? ⟨b1, o1 + i * 3, none⟩ = some (.string xi) ∧ W.cell? ⟨b1, o1 + b' * 3, none⟩ = some (.string xb)) [(0, 0), (0, 1), (0, 2), (0, 3), (0, 4), (0, 5), (0, 6), (0, 7), (1, 8), (0, 9), (0, 10), (0, 11), (0, 12), (0, 13), (0, 14), (1, 15), (0, 16), (0, 17), (0, 18), (0, 19), (0, 20), (0, 21), (0, 22), (0, 23), (0, 24), (0, 25), (1, 26), (0, 27), (0, 28), (0, 29), (0, 30), (1, 31), (0, 32), (0, 33), (0, 34)] (by kernel_rfl) (by kernel_rfl) ?_
                go_wp2_with (first
                  | (refine ord_pure rfl rfl rfl (fun K hK => ?_); go_big_quiet_op; refine hK _ ?_; clear hK K)
                                                                | (refine ord_skip rfl rfl ?_; simp only [Act.put, List.setIfInBounds_toArray, List.set_cons_zero, List.set_cons_succ])
                                                                | (refine ord_held rfl rfl rfl (⟨x0, y0⟩) (fun K hK => ?_); apply Exists.intro; refine ⟨fun w' hs => ?_, hK _ ?_⟩; (revert hs; dsimp only; (try simp only [and_imp]); intros; go_simp; rfl); clear hK K)
                                                                | (refine ord_keep rfl rfl (⟨x0, y0⟩) (fun K hK => ?_))
                                                                | (refine ord_drop rfl rfl (fun K hK => ?_))
                                                                | (refine ord_nil ?_))
                go_roundw
                case rel => exact ⟨i + 1, some b', rfl, by go_num, hit, HN2, Lib.hid hMi.out.drew⟩
                case measure => simp [intOf]; omega
          · have hNl : (sortN (l.map (·.1))).length = l.length := by rw [(sortN_perm _).length_eq, List.length_map]
            have hk1 : k - 1 < (sortN (l.map (·.1))).length := by omega
            have hqs : q = some (sortN (l.map (·.1)))[k - 1] := by rw [HQ.out, if_neg hk0, List.getElem?_eq_getElem hk1]
            have hrl : ((risingL l).take k).length = k := by rw [List.length_take, risingL_len]; omega
            obtain ⟨b3, o3, e3, z0, z1, z2⟩ := rd_cellZ (hO.out.rd.mod hMi.out (fun _ _ => id)) (i := k - 1) (by rw [hrl]; omega)
            have hzn : ((risingL l).take k)[k - 1].1 = (sortN (l.map (·.1)))[k - 1] := by
              rw [List.getElem_take]
              unfold risingL
              rw [List.getElem_map, byN_name]
            rw [hzn] at z0
            subst e3
            have hkn : ((k : Int) - 1).toNat = k - 1 := by omega
            have hel : elig q l[i].1 ↔ bl (sortN (l.map (·.1)))[k - 1] < bl l[i].1 := by
              constructor
              · intro h; exact h _ hqs
              · intro h y hy; rw [hqs] at hy; cases hy; exact h
            have hg := gtr_not l[i].1 (sortN (l.map (·.1)))[k - 1]
            have ek : ((k : Int) == 0) = false := by simpa using hk0
            clear hqs hzn z1 z2 hrl
            generalize (sortN (l.map (·.1)))[k - 1] = xl at *
            have HEL := Lib.hid hel
            clear hel
            by_cases he : bl xl < bl l[i].1
            · rw [decide_eq_true he] at hg
              have HE := Lib.hid (HEL.out.2 he)
              clear he
              cases b with
              | none =>
                have HN2 := Lib.hid (HTK.out HE.out (.inl (by simp)))
                unfold bestV
                generalize l[i].1 = xi at *
                go_wp2_with fail
                refine wp_region_ord (fun W => W.cell? ⟨b1, o1 + i * 3, none⟩ = some (.string xi) ∧ W.cell? ⟨b3, o3 + (k - 1) * 3, none⟩ = some (.string xl)) [(0, 0), (0, 1), (0, 2), (0, 3), (0, 4), (0, 5), (0, 6), (0, 7), (1, 8), (0, 9), (0, 10), (0, 11), (0, 12), (0, 13), (0, 14), (1, 15), (0, 16), (0, 17), (0, 18), (0, 19), (0, 20), (0, 21), (0, 22), (0, 23), (0, 24), (0, 25), (1, 26), (0, 27), (0, 28), (0, 29), (0, 30), (1, 31), (0, 32), (0, 33), (0, 34)] (by kernel_rfl) (by kernel_rfl) ?_
                go_wp2_with (first
                  | (refine ord_pure rfl rfl rfl (fun K hK => ?_); go_big_quiet_op; refine hK _ ?_; clear hK K)
                                                                | (refine ord_skip rfl rfl ?_; simp only [Act.put, List.setIfInBounds_toArray, List.set_cons_zero, List.set_cons_succ])
                                                                | (refine ord_held rfl rfl rfl (⟨x0, z0⟩) (fun K hK => ?_); apply Exists.intro; refine ⟨fun w' hs => ?_, hK _ ?_⟩; (revert hs; dsimp only; (try simp only [and_imp]); intros; go_simp; rfl); clear hK K)
                                                                | (refine ord_keep rfl rfl (⟨x0, z0⟩) (fun K hK => ?_))
                                                                | (refine ord_drop rfl rfl (fun K hK => ?_))
                                                                | (refine ord_nil ?_))
                go_roundw
                case rel => exact ⟨i + 1, some i, rfl, by go_num, hit, HN2, Lib.hid hMi.out.drew⟩
                case measure => simp [intOf]; omega
              | some b' =>
                obtain ⟨hbi, hb', _⟩ := id hB.out
                obtain ⟨b2, o2, e2, y0, _, _⟩ := rd_cellZ ((HR.out.mod hG.out.mod0 (fun _ _ => id)).mod hMi.out (fun _ _ => id)) hb'
                cases e2
                unfold bestV
                by_cases hcmp : bl l[i].1 < bl l[b'].1
                · have hc := (lss_dec l[i].1 l[b'].1).trans (decide_eq_true hcmp)
                  have HN2 := Lib.hid (HTK.out HE.out (.inr ⟨b', rfl, hb', hcmp⟩))
                  clear hcmp
                  generalize l[i].1 = xi at *
                  generalize l[b'].1 = xb at *
                  go_wp2_with fail
                  refine wp_region_ord (fun W => W.cell? ⟨b1, o1 + i * 3, none⟩ = some (.string xi) ∧ W.cell? ⟨b3, o3 + (k - 1) * 3, none⟩ = some (.string xl) ∧ W.cell? ⟨b1, o1 + b' * 3, none⟩ = some (.string xb)) [(0, 0), (0, 1), (0, 2), (0, 3), (0, 4), (0, 5), (0, 6), (0, 7), (1, 8), (0, 9), (0, 10), (0, 11), (0, 12), (0, 13), (0, 14), (1, 15), (0, 16), (0, 17), (0, 18), (0, 19), (0, 20), (0, 21), (0, 22), (0, 23), (0, 24), (0, 25), (1, 26), (0, 27), (0, 28), (0, 29), (0, 30), (1, 31), (0, 32), (0, 33), (0, 34)] (by kernel_rfl) (by kernel_rfl) ?_
                  go_wp2_with (first
                    | (refine ord_pure rfl rfl rfl (fun K hK => ?_); go_big_quiet_op; refine hK _ ?_; clear hK K)
                                                                | (refine ord_skip rfl rfl ?_; simp only [Act.put, List.setIfInBounds_toArray, List.set_cons_zero, List.set_cons_succ])
                                                                | (refine ord_held rfl rfl rfl (⟨x0, z0, y0⟩) (fun K hK => ?_); apply Exists.intro; refine ⟨fun w' hs => ?_, hK _ ?_⟩; (revert hs; dsimp only; (try simp only [and_imp]); intros; go_simp; rfl); clear hK K)
                                                                | (refine ord_keep rfl rfl (⟨x0, z0, y0⟩) (fun K hK => ?_))
                                                                | (refine ord_drop rfl rfl (fun K hK => ?_))
                                                                | (refine ord_nil ?_))
                  go_roundw
                  case rel => exact ⟨i + 1, some i, rfl, by go_num, hit, HN2, Lib.hid hMi.out.drew⟩
                  case measure => simp [intOf]; omega
                · have hc := (lss_dec l[i].1 l[b'].1).trans (decide_eq_false hcmp)
                  have HN2 := Lib.hid (HSK.out (.inr ⟨b', rfl, hb', hcmp⟩))
                  clear hcmp
                  generalize l[i].1 = xi at *
                  generalize l[b'].1 = xb at *
                  go_wp2_with fail
                  refine wp_region_ord (fun W => W.cell? ⟨b1, o1 + i * 3, none⟩ = some (.string xi) ∧ W.cell? ⟨b3, o3 + (k - 1) * 3, none⟩ = some (.string xl) ∧ W.cell? ⟨b1, o1 + b' * 3, none⟩ = some (.string xb)) [(0, 0), (0, 1), (0, 2), (0, 3), (0, 4), (0, 5), (0, 6), (0, 7), (1, 8), (0, 9), (0, 10), (0, 11), (0, 12), (0, 13), (0, 14), (1, 15), (0, 16), (0, 17), (0, 18), (0, 19), (0, 20), (0, 21), (0, 22), (0, 23), (0, 24), (0, 25), (1, 26), (0, 27), (0, 28), (0, 29), (0, 30), (1, 31), (0, 32), (0, 33), (0, 34)] (by kernel_rfl) (by kernel_rfl) ?_
                  go_wp2_with (first
                    | (refine ord_pure rfl rfl rfl (fun K hK => ?_); go_big_quiet_op; refine hK _ ?_; clear hK K)
                                                                | (refine ord_skip rfl rfl ?_; simp only [Act.put, List.setIfInBounds_toArray, List.set_cons_zero, List.set_cons_succ])
                                                                | (refine ord_held rfl rfl rfl (⟨x0, z0, y0⟩) (fun K hK => ?_); apply Exists.intro; refine ⟨fun w' hs => ?_, hK _ ?_⟩; (revert hs; dsimp only; (try simp only [and_imp]); intros; go_simp; rfl); clear hK K)
                                                                | (refine ord_keep rfl rfl (⟨x0, z0, y0⟩) (fun K hK => ?_))
                                                                | (refine ord_drop rfl rfl (fun K hK => ?_))
                                                                | (refine ord_nil ?_))
                  go_roundw
                  case rel => exact ⟨i + 1, some b', rfl, by go_num, hit, HN2, Lib.hid hMi.out.drew⟩
                  case measure => simp [intOf]; omega
            · rw [decide_eq_false he] at hg
              have HN2 := Lib.hid (HSK.out (.inl (fun h => he (HEL.out.1 h))))
              clear he
              generalize hbv : bestV b = bv at *
              have HBV := Lib.hid hbv.symm
              clear hbv
              generalize l[i].1 = xi at *
              go_wp2_with fail
              refine wp_region_ord (fun W => W.cell? ⟨b1, o1 + i * 3, none⟩ = some (.string xi) ∧ W.cell? ⟨b3, o3 + (k - 1) * 3, none⟩ = some (.string xl)) [(0, 0), (0, 1), (0, 2), (0, 3), (0, 4), (0, 5), (0, 6), (0, 7), (1, 8), (0, 9), (0, 10), (0, 11), (0, 12), (0, 13), (0, 14), (1, 15), (0, 16), (0, 17), (0, 18), (0, 19), (0, 20), (0, 21), (0, 22), (0, 23), (0, 24), (0, 25), (1, 26), (0, 27), (0, 28), (0, 29), (0, 30), (1, 31), (0, 32), (0, 33), (0, 34)] (by kernel_rfl) (by kernel_rfl) ?_
              go_wp2_with (first
                | (refine ord_pure rfl rfl rfl (fun K hK => ?_); go_big_quiet_op; refine hK _ ?_; clear hK K)
                                                                | (refine ord_skip rfl rfl ?_; simp only [Act.put, List.setIfInBounds_toArray, List.set_cons_zero, List.set_cons_succ])
                                                                | (refine ord_held rfl rfl rfl (⟨x0, z0⟩) (fun K hK => ?_); apply Exists.intro; refine ⟨fun w' hs => ?_, hK _ ?_⟩; (revert hs; dsimp only; (try simp only [and_imp]); intros; go_simp; rfl); clear hK K)
                                                                | (refine ord_keep rfl rfl (⟨x0, z0⟩) (fun K hK => ?_))
                                                                | (refine ord_drop rfl rfl (fun K hK => ?_))
                                                                | (refine ord_nil ?_))
              go_roundw
              case rel => exact ⟨i + 1, b, by rw [HBV.out], by go_num, hit, HN2, Lib.hid hMi.out.drew⟩
              case measure => simp [intOf]; omega
        · obtain rfl : i = l.length := by omega
          obtain ⟨b', rfl, hb', hbest⟩ := best_end HND.out hlt HQ.out hB.out
          obtain ⟨b2, o2, rfl, y0, y1, y2⟩ := rd_cellZ ((HR.out.mod hG.out.mod0 (fun _ _ => id)).mod hMi.out (fun _ _ => id)) hb'
          have HTK : Hid ((risingL l).take (k + 1) = (risingL l).take k ++ [l[b']]) := Lib.hid (by
            rw [List.take_add_one, hbest]; rfl)
          have HO2 := Lib.hid (hO.out.mod hMi.out (fun _ _ => id))
          have HG2 := Lib.hid (hG.out.post (hMi.out.mono (fun _ _ h => h.elim)))
          unfold bestV
          clear hbest hB
          generalize l[b'] = t at *
          obtain ⟨tn, ta, tr⟩ := t
          simp only at y0 y1 y2
          go_wp2_with (at_builtin; refine wpL_appendN (us := [.string tn, .int .i64 ta, .int .i64 tr]) rfl (.tmp 53) (.tmp 58) 64 rfl tiPd rfl HO2.out rfl rfl rfl (by omega) (by unfold maxLen; omega) ?_; intro a3 c3 w3 hO3 hG3 _; have HO3 := Lib.hid hO3; have HG3 := Lib.hid hG3; clear hO3 hG3)
          go_roundw
          case rel => exact ⟨k + 1, a3, c3, rfl, hlt, Lib.hid (by rw [HTK.out, pzsC_append]; exact HO3.out), Lib.hid (HG2.out.trans HG3.out)⟩
          case measure => simp [lenV]; omega
    · obtain rfl : k = l.length := by omega
      go_wp2_with fail
      go_ret
      refine ⟨a1, c1, rfl, ?_, hG.out⟩
      have h := hO.out
      rw [List.take_of_length_le (by rw [risingL_len]; exact Nat.le_refl _)] at h
      exact h
end Go.Proofs.YteecbbnpgmceiaaGreatDoor
/-
  The document's With, walked; preds.
-/
namespace Go.Proofs.YteecbbnpgmceiaaGreatDoor
open Go Go.RowKit Go.Mine
set_option linter.unusedVariables false
set_option maxHeartbeats 4000000
set_option maxRecDepth 100000

theorem preds_true (ps : List PdZ) (a b : Option Addr) (ca cb : Nat) (w : World) (ha : Rd w a (pzsC ps)) (hb : Rd w b (pzsC ps)) (hl : ps.length ≤ 2 ^ 42) :
    Calls Tryz.prog 28 #[.slice a ps.length ca, .slice b ps.length cb] w fun e w' => e = .returned (.bool true) ∧ Mod (fun _ => False) w w' := by
  have HA := Lib.hid ha; have HB := Lib.hid hb
  clear ha hb
  go_enter Tryz.func28, Tryz.ntmps28
  go_wp2_with fail
  go_loopw [5] (fun iv wr => ∃ i : Nat, iv = .int .i64 i ∧ i ≤ ps.length ∧ Hid (Mod (fun _ => False) w wr)) (fun iv _ => ps.length - (intOf iv).toNat)
  case atStart => exact ⟨0, rfl, Nat.zero_le _, Lib.hid (Mod.refl _ _)⟩
  case round =>
    obtain ⟨i, rfl, hi, hM⟩ := hrel
    by_cases hlt : i < ps.length
    · obtain ⟨b1, o1, rfl, x0, x1, x2⟩ := rd_cellZ (HA.out.mod hM.out (fun _ _ => id)) hlt
      obtain ⟨b2, o2, rfl, y0, y1, y2⟩ := rd_cellZ (HB.out.mod hM.out (fun _ _ => id)) hlt
      generalize ps[i] = t at *
      obtain ⟨tn, ta, tr⟩ := t
      simp only at x0 x1 x2 y0 y1 y2
      go_wp2_with fail
      refine wp_region_ord (fun W => (W.cell? ⟨b1, o1 + i * 3, none⟩ = some (.string tn) ∧ W.cell? ⟨b1, o1 + i * 3 + 1, none⟩ = some (.int .i64 ta) ∧ W.cell? ⟨b1, o1 + i * 3 + 2, none⟩ = some (.int .i64 tr)) ∧ (W.cell? ⟨b2, o2 + i * 3, none⟩ = some (.string tn) ∧ W.cell? ⟨b2, o2 + i * 3 + 1, none⟩ = some (.int .i64 ta) ∧ W.cell? ⟨b2, o2 + i * 3 + 2, none⟩ = some (.int .i64 tr))) [(0, 0), (0, 1), (0, 2), (0, 3), (1, 4), (0, 5), (0, 6), (0, 7), (0, 8), (1, 9), (0, 10), (0, 11), (0, 12), (0, 13), (0, 14), (0, 15), (1, 16), (0, 17), (0, 18), (0, 19), (0, 20), (1, 21), (0, 22), (0, 23), (0, 24), (0, 25), (0, 26), (0, 27), (0, 28), (1, 29), (0, 30), (0, 31), (0, 32), (0, 33), (1, 34), (0, 35), (0, 36)] (by kernel_rfl) (by kernel_rfl) ?_
      go_wp2_with (first
        | (refine ord_pure rfl rfl rfl (fun K hK => ?_); go_big_quiet_op; refine hK _ ?_; clear hK K)
                                                                | (refine ord_skip rfl rfl ?_; simp only [Act.put, List.setIfInBounds_toArray, List.set_cons_zero, List.set_cons_succ])
                                                                | (refine ord_held rfl rfl rfl (⟨⟨x0, x1, x2⟩, ⟨y0, y1, y2⟩⟩) (fun K hK => ?_); apply Exists.intro; refine ⟨fun w' hs => ?_, hK _ ?_⟩; (revert hs; dsimp only; (try simp only [and_imp]); intros; go_simp; rfl); clear hK K)
                                                                | (refine ord_keep rfl rfl (⟨⟨x0, x1, x2⟩, ⟨y0, y1, y2⟩⟩) (fun K hK => ?_))
                                                                | (refine ord_drop rfl rfl (fun K hK => ?_))
                                                                | (refine ord_nil ?_))
      go_roundw
      case rel => exact ⟨i + 1, by go_num, hlt, Lib.hid hM.out.drew⟩
      case measure => simp [intOf]; omega
    · go_wp2_with fail
      go_ret
      exact ⟨rfl, hM.out⟩

/-- names with arities, each with its count -/
def tagC (f : ByteArray → Nat) (M : Ar) : List Pd := M.map fun x => (x.1, x.2, f x.1)
def tagZ (f : ByteArray → Nat) (M : ArZ) : List PdZ := M.map fun x => (x.1, x.2, f x.1)
theorem arP_tag (f : ByteArray → Nat) (M : Ar) : arP (tagC f M) = M := by unfold arP tagC; rw [List.map_map]; exact List.map_id' _
theorem arPZ_tag (f : ByteArray → Nat) (M : ArZ) : arPZ (tagZ f M) = M := by unfold arPZ tagZ; rw [List.map_map]; exact List.map_id' _
theorem tag_note {f : ByteArray → Nat} {M : Ar} {x : ByteArray × Nat} (h : arOf M x.1 = none → f x.1 = 0) : notePd (tagC f M) x = tagC f (noteL M x) := by
  unfold notePd noteL
  rw [arP_tag]
  cases ho : arOf M x.1 with
  | some n => rfl
  | none => simp [tagC, h ho]
theorem tagZ_note {f : ByteArray → Nat} {M : ArZ} {x : ByteArray × Int} (h : arZ M x.1 = none → f x.1 = 0) : notePZ (tagZ f M) x = tagZ f (noteZ M x) := by
  unfold notePZ noteZ
  rw [arPZ_tag]
  cases ho : arZ M x.1 with
  | some n => rfl
  | none => simp [tagZ, h ho]
theorem noteL_none {M : Ar} {x : ByteArray × Nat} {y : ByteArray} (h : arOf (noteL M x) y = none) : arOf M y = none := by
  unfold noteL at h
  cases ho : arOf M x.1 with
  | some n => rw [ho] at h; exact h
  | none =>
    rw [ho] at h
    simp only at h
    rw [arOf_snoc] at h
    split at h
    · rename_i hs; exact h
    · rename_i hs; cases hy : arOf M y with
      | none => rfl
      | some n => rw [hy] at hs; exact absurd rfl hs
theorem tag_all {f : ByteArray → Nat} : ∀ (us : Ar) (M : Ar), (∀ x ∈ us, arOf M x.1 = none → f x.1 = 0) → ∃ M', noteAll (tagC f M) us = tagC f M'
  | [], M, _ => ⟨M, rfl⟩
  | u :: us, M, h => by
    rw [noteAll, tag_note (h u (by simp))]
    exact tag_all us (noteL M u) fun x hx hn => h x (by simp [hx]) (noteL_none hn)
theorem tag_z (f : ByteArray → Nat) (M : Ar) : pdsC (tagC f M) = pzsC (tagZ f (toZ M)) := by
  unfold pdsC pzsC tagC tagZ toZ
  rw [List.map_map, List.flatMap_map, List.flatMap_map]
  rfl
theorem cnt_new {rs : List Rm} {M : Ar} (h : notedL [] (usesAll rs) = some M) {x : ByteArray} (hx : arOf M x = none) : cntR rs x = 0 := by
  unfold cntR
  rw [List.length_eq_zero_iff, List.filter_eq_nil_iff]
  intro r hr e
  have hm : (r.head.pred, r.head.terms.length) ∈ M := ((noted_some h).2.2 _).2 (List.mem_flatMap.2 ⟨r, hr, by rw [usesL]; simp⟩)
  have h1 := (arOf_isSome M x).2 (List.mem_map.2 ⟨_, hm, by simpa using e⟩)
  rw [hx] at h1; cases h1
/-- one more of a name -/
def bumpC (pr : ByteArray) (x : Pd) : Pd := if x.1 = pr then (x.1, x.2.1, x.2.2 + 1) else x
theorem bump_tag (f : ByteArray → Nat) (pr : ByteArray) (M : Ar) : (tagC f M).map (bumpC pr) = tagC (fun y => if y = pr then f pr + 1 else f y) M := by
  unfold tagC
  rw [List.map_map]
  refine List.map_congr_left fun x _ => ?_
  show bumpC pr (x.1, x.2, f x.1) = _
  unfold bumpC
  by_cases h : x.1 = pr
  · rw [if_pos h]; simp [h]
  · rw [if_neg h]; simp [h]
theorem rising_tag {f : ByteArray → Nat} {M : ArZ} : risingL (tagZ f M) = (sortN (M.map (·.1))).map fun x => (x, (arZ M x).getD 0, f x) := by
  have hn : (tagZ f M).map (·.1) = M.map (·.1) := by unfold tagZ; rw [List.map_map]; rfl
  unfold risingL
  rw [hn]
  refine List.map_congr_left fun x hx => ?_
  have hx2 : x ∈ M.map (·.1) := (sortN_perm _).mem_iff.1 hx
  have h1 : ∀ M : ArZ, x ∈ M.map (·.1) → byN (tagZ f M) x = (x, (arZ M x).getD 0, f x) := by
    intro M
    induction M with
    | nil => intro h; cases h
    | cons y M ih =>
      intro h
      unfold byN tagZ at ih ⊢
      rw [List.map_cons, List.find?_cons, arZ_cons]
      by_cases hy : y.1 = x
      · rw [if_pos hy]
        simp [hy]
      · rw [if_neg hy]
        simp only [hy, decide_false]
        rw [List.map_cons, List.mem_cons] at h
        exact ih (h.resolve_left fun e => hy e.symm)
  exact h1 M hx2
/-- what the document's With answers -/
def RWPost (w w' : World) (e : Ending) : Option (List PdZ) → Prop
  | none => e = .returned (.tuple #[.slice none 0 0, .int .i64 110])
  | some ps => ∃ a c, e = .returned (.tuple #[.slice a ps.length c, .int .i64 0]) ∧ Mine.Own w' 134 3 a ps.length c (pzsC ps) ∧ (∀ b, blk a = some b → w.heap.size ≤ b)
theorem RWPost.no {w w' : World} {e : Ending} {R : Option (List PdZ)} (hR : R = none) (he : e = .returned (.tuple #[.slice none 0 0, .int .i64 110])) : RWPost w w' e R := by subst hR; exact he
theorem RWPost.yes {w w' : World} {e : Ending} {R : Option (List PdZ)} {ps : List PdZ} {a : Option Addr} {c : Nat} (hR : R = some ps) (he : e = .returned (.tuple #[.slice a ps.length c, .int .i64 0])) (hC : Mine.Own w' 134 3 a ps.length c (pzsC ps)) (hF : ∀ b, blk a = some b → w.heap.size ≤ b) : RWPost w w' e R := by subst hR; exact ⟨a, c, he, hC, hF⟩
theorem bumpC_len (pr : ByteArray) (L : List Pd) (j : Nat) : ((L.take j).map (bumpC pr) ++ L.drop j).length = L.length := by
  rw [List.length_append, List.length_map, List.length_take, List.length_drop]; omega
theorem bump_step {pr : ByteArray} {L : List Pd} {j : Nat} (h : j < L.length) : (L.take (j + 1)).map (bumpC pr) ++ L.drop (j + 1) = ((L.take j).map (bumpC pr) ++ L.drop j).set j (bumpC pr L[j]) := by
  have hl : ((L.take j).map (bumpC pr)).length = j := by rw [List.length_map, List.length_take]; omega
  rw [List.take_succ_eq_append_getElem h, List.map_append, List.set_append_right _ _ (by omega), hl, Nat.sub_self, List.drop_eq_getElem_cons h, List.set_cons_zero, List.append_assoc]
  rfl
theorem bump_get {pr : ByteArray} {L : List Pd} {j : Nat} (h : j < L.length) (h2 : j < ((L.take j).map (bumpC pr) ++ L.drop j).length) : ((L.take j).map (bumpC pr) ++ L.drop j)[j] = L[j] := by
  have hl : ((L.take j).map (bumpC pr)).length = j := by rw [List.length_map, List.length_take]; omega
  rw [List.getElem_append_right (by omega), List.getElem_drop]
  congr 1
  omega
theorem pds_set {L : List Pd} {j : Nat} (hj : j < L.length) {n : ByteArray} {a r r' : Nat} (he : L[j] = (n, a, r)) : pdsC (L.set j (n, a, r')) = (pdsC L).set (j * 3 + 2) (.int .i64 (r' : Int)) := by
  apply List.ext_getElem?
  intro m
  have hlen : (pdsC L).length = L.length * 3 := pdsC_length L
  rw [List.getElem?_set]
  by_cases hm : m < L.length * 3
  · have hq : m / 3 < L.length := by omega
    have hr : m % 3 < 3 := by omega
    have e : m / 3 * 3 + m % 3 = m := by omega
    have h1 : (L.set j (n, a, r'))[m / 3]? = some (if m / 3 = j then (n, a, r') else L[m / 3]) := by
      rw [List.getElem?_set]
      by_cases hjm : j = m / 3
      · rw [if_pos hjm, if_pos hj, if_pos hjm.symm]
      · rw [if_neg hjm, if_neg (fun e => hjm e.symm), List.getElem?_eq_getElem hq]
    have g1 := flat_get (f := pdC) pdC_length h1 hr
    have g2 := flat_get (f := pdC) pdC_length (List.getElem?_eq_getElem hq) hr
    rw [e] at g1 g2
    show (List.flatMap pdC (L.set j (n, a, r')))[m]? = _
    rw [g1]
    by_cases hjm : m / 3 = j
    · rw [if_pos hjm]
      subst hjm
      by_cases h2 : m % 3 = 2
      · rw [if_pos (by omega), if_pos (by rw [hlen]; omega), h2]; rfl
      · rw [if_neg (by omega)]
        show _ = (pdsC L)[m]?
        have g3 : (pdsC L)[m]? = (pdC L[m / 3])[m % 3]? := g2
        rw [g3, he]
        have : m % 3 = 0 ∨ m % 3 = 1 := by omega
        rcases this with h | h <;> rw [h] <;> rfl
    · rw [if_neg hjm, if_neg (by omega)]
      exact g2.symm
  · rw [List.getElem?_eq_none (by rw [pdsC_length, List.length_set]; omega), if_neg (by omega), List.getElem?_eq_none (by rw [hlen]; omega)]
end Go.Proofs.YteecbbnpgmceiaaGreatDoor
/-
  The document's With and Arities, walked.
-/
namespace Go.Proofs.YteecbbnpgmceiaaGreatDoor
open Go Go.RowKit Go.Mine
set_option linter.unusedVariables false
set_option maxHeartbeats 8000000
set_option maxRecDepth 100000

theorem noteZ_none {M : ArZ} {x : ByteArray × Int} {y : ByteArray} (h : arZ (noteZ M x) y = none) : arZ M y = none := by
  unfold noteZ at h
  cases ho : arZ M x.1 with
  | some n => rw [ho] at h; exact h
  | none =>
    rw [ho] at h
    simp only at h
    rw [arZ_snoc] at h
    split at h
    · exact h
    · rename_i hs
      cases hy : arZ M y with
      | none => rfl
      | some n => rw [hy] at hs; exact absurd rfl hs
theorem noteZ_nodup {M : ArZ} {x : ByteArray × Int} (h : (M.map (·.1)).Nodup) : ((noteZ M x).map (·.1)).Nodup := by
  unfold noteZ
  cases ho : arZ M x.1 with
  | some n => exact h
  | none =>
    simp only
    rw [List.map_append, List.nodup_append]
    refine ⟨h, by simp, fun a ha b hb => ?_⟩
    simp only [List.map_cons, List.map_nil, List.mem_singleton] at hb
    subst hb
    intro e; subst e
    have := (arZ_isSome M x.1).2 ha
    rw [ho] at this; cases this
theorem refWith_any (rs : List Rm) (v0 : Value) (rels : List Re) (ra : Option Addr) (rc : Nat) (w : World) (hr : RsAt w v0 rs) (hn : rs.length ≤ 2 ^ 20) (hs : ∀ r ∈ rs, SchOk r) (hU : (usesAll rs).length ≤ 2 ^ 41)
    (hre : Rd w ra (resC rels)) (hrn : rels.length ≤ 2 ^ 40) :
    Calls Tryz.prog 26 #[.agg #[v0], .slice ra rels.length rc] w fun e w' => RWPost w w' e (withL rs (relZ rels)) ∧ Mod (fun _ => False) w w' := by
  obtain ⟨ad, c, xv, rfl, hx, hrx, hxt⟩ := hr
  have HX := Lib.hid hx; have HR := Lib.hid hrx; have HXT := Lib.hid hxt; have HS := Lib.hid hs; have HRE := Lib.hid hre; have HU := Lib.hid hU
  have hm1 : Mod (fun _ => False) w (w.alloc (.cells #[.slice ad rs.length c] 24)) := (Mod.refl _ w).alloc _
  have HP : Hid (∀ W, Mod (fun _ => False) (w.alloc (.cells #[.slice ad rs.length c] 24)) W → W.cell? ⟨w.heap.size, 0, none⟩ = some (.slice ad rs.length c)) := fun W m => m.cell (cell_new rfl) id
  obtain ⟨R, hRR⟩ : ∃ R, R = withL rs (relZ rels) := ⟨_, rfl⟩
  rw [← hRR]
  have HRR := Lib.hid hRR; have HM1 := Lib.hid hm1
  clear hx hrx hxt hs hre hU hm1 hRR
  go_enter Tryz.func26, Tryz.ntmps26
  go_wp2_with fail
  generalize w.alloc (.cells #[.slice ad rs.length c] 24) = w1 at *
  go_loopw [6, 7] (fun lv iv wr => ∃ (k : Nat) (M : Ar) (a : Option Addr) (c2 : Nat), lv = .slice a M.length c2 ∧ iv = .int .i64 k ∧ k ≤ rs.length ∧ Hid (notedL [] (usesAll (rs.take k)) = some M) ∧ Hid (Mine.Own wr 134 3 a M.length c2 (pdsC (tagC (cntR (rs.take k)) M))) ∧ Hid (Grow w1 none wr a)) (fun _ iv _ => rs.length - (intOf iv).toNat)
  case atStart => exact ⟨0, [], none, 0, rfl, rfl, Nat.zero_le _, rfl, Lib.hid (Own.nil w1 _ _), Lib.hid (Grow.refl _ _)⟩
  case round =>
    obtain ⟨k, M, a, c2, rfl, rfl, hk, hL, hO, hG⟩ := hrel
    have p0 := HP.out _ hG.out.mod0
    by_cases hlt : k < rs.length
    · obtain ⟨⟨sk, bk⟩, hx, hmem⟩ := xs_get HX.out hlt
      obtain ⟨bb, o, rfl, x0, x1, x2⟩ := rd_cellR (HR.out.mod (HM1.out.trans hG.out.mod0) (fun _ _ => id)) hx
      have HRC : Hid (∀ W, Mod (fun _ => False) w1 W → W.cell? ⟨bb, o + k * 3, none⟩ = some (.string rs[k].head.pred)) := fun W m => by
        obtain ⟨b', o', e, y, _, _⟩ := rd_cellR (HR.out.mod (HM1.out.trans m) (fun _ _ => id)) hx
        cases e; exact y
      have hok := HS.out _ (List.getElem_mem hlt)
      have HTS := Lib.hid ((HXT.out _ hmem).1.mod0 (HM1.out.trans hG.out.mod0))
      have HLS := Lib.hid ((HXT.out _ hmem).2.mod0 (HM1.out.trans hG.out.mod0))
      have HST := Lib.hid (noted_step hlt hL.out)
      have HCS := Lib.hid (cntR_step hlt)
      have hMn : M.length ≤ 2 ^ 41 := by
        have h1 := notedL_le hL.out
        have h2 := usesAll_take_le rs k
        have h3 := HU.out
        simp only [List.length_nil] at h1
        omega
      have hM2 : (usesAll (rs.take (k + 1))).length ≤ 2 ^ 41 := Nat.le_trans (usesAll_take_le rs (k + 1)) HU.out
      have HM2 := Lib.hid hM2
      have hbn : ∀ y, cntR (rs.take (k + 1)) y ≤ 2 ^ 20 := fun y => Nat.le_trans (cntR_le _ _) (by rw [List.length_take]; omega)
      have HBN := Lib.hid hbn
      have hfz : ∀ x ∈ usesL rs[k], arOf M x.1 = none → cntR (rs.take k) x.1 = 0 := fun x _ h => cnt_new hL.out h
      have HFZ := Lib.hid hfz
      obtain ⟨sa, sc, hsk⟩ : ∃ sa sc, sk = .slice sa (rs[k]).head.terms.length sc := by obtain ⟨sa, sc, e, _⟩ := HTS.out; exact ⟨sa, sc, e⟩
      obtain ⟨ba, bc, hbk⟩ : ∃ sa sc, bk = .slice sa (rs[k]).body.length sc := by obtain ⟨sa, sc, _, e, _⟩ := HLS.out; exact ⟨sa, sc, e⟩
      subst hsk hbk
      clear hx hmem hM2 hbn hfz
      generalize rs[k] = t at *
      have htl : (tagC (cntR (rs.take k)) M).length = M.length := by unfold tagC; rw [List.length_map]
      have hO' : Mine.Own wr 134 3 a (tagC (cntR (rs.take k)) M).length c2 (pdsC (tagC (cntR (rs.take k)) M)) := by rw [htl]; exact hO.out
      obtain ⟨M', hM'⟩ := tag_all (f := cntR (rs.take k)) (usesL t) M HFZ.out
      have heq := notedL_eq (tagC (cntR (rs.take k)) M) (usesL t)
      have hNA := noted_any a c2 (tagC (cntR (rs.take k)) M) t _ _ wr hO' (by rw [htl]; exact hMn) HTS.out HLS.out hok.b0
      rw [hM'] at hNA heq
      rw [arP_tag, arP_tag] at heq
      have htl' : (tagC (cntR (rs.take k)) M').length = M'.length := by unfold tagC; rw [List.length_map]
      rw [htl, htl'] at hNA
      have HNA := Lib.hid hNA; have HEQ := Lib.hid heq; have HTL := Lib.hid htl'
      unfold rmV at HNA
      generalize fitAll (tagC (cntR (rs.take k)) M) (usesL t) = fb at *
      clear hNA heq hM' hO' htl htl' hok HFZ hL hO
      go_wp2_with fail
      refine HNA.out.mono ?_
      rintro e w2 ⟨a', c', rfl, hO2, hG2⟩
      have HG2 := Lib.hid (hG.out.trans hG2); have HO2 := Lib.hid hO2
      clear hG2 hO2 HNA x0 x1 x2 p0 hG
      cases fb with
      | false =>
        have h1 : notedL [] (usesAll (rs.take (k + 1))) = none := by rw [HST.out, HEQ.out]; rfl
        have HCL := Lib.hid (noted_clash h1)
        clear h1
        go_wp2_with fail
        exact bodyPost_ret (results_tmp2 rfl _ _ _) rfl ⟨RWPost.no (by rw [HRR.out]; unfold withL; rw [HCL.out]; rfl) rfl, HM1.out.trans HG2.out.mod0⟩
      | true =>
        have h1 : notedL [] (usesAll (rs.take (k + 1))) = some M' := by rw [HST.out, HEQ.out]; rfl
        have hMn' : M'.length ≤ 2 ^ 41 := by
          have h2 := notedL_le h1
          have h3 := HM2.out
          simp only [List.length_nil] at h2
          omega
        have HL2 := Lib.hid h1
        clear h1 HEQ HST
        have hbt : (tagC (cntR (rs.take k)) M').map (bumpC t.head.pred) = tagC (cntR (rs.take (k + 1))) M' := by rw [bump_tag, HCS.out]
        have HBT := Lib.hid hbt
        have hbr : ∀ x ∈ tagC (cntR (rs.take k)) M', x.2.2 ≤ 2 ^ 20 := fun x hx => by
          obtain ⟨y, _, rfl⟩ := List.mem_map.1 hx
          exact Nat.le_trans (cntR_le _ _) (by rw [List.length_take]; omega)
        have HBR := Lib.hid hbr
        clear hbt hbr
        generalize tagC (cntR (rs.take k)) M' = L1 at *
        generalize t.head.pred = pr at *
        go_wp2_with fail
        go_loopw [10] (fun iv wr => ∃ j : Nat, iv = .int .i64 j ∧ j ≤ M'.length ∧ Hid (Mine.Own wr 134 3 a' M'.length c' (pdsC ((L1.take j).map (bumpC pr) ++ L1.drop j))) ∧ Hid (Grow w1 none wr a')) (fun iv _ => M'.length - (intOf iv).toNat)
        case atStart => exact ⟨0, rfl, Nat.zero_le _, Lib.hid (by simpa using HO2.out), HG2⟩
        case round =>
          obtain ⟨j, rfl, hj, hOj, hGj⟩ := hrel
          by_cases hjt : j < M'.length
          · have hjl : j < L1.length := by rw [HTL.out]; exact hjt
            have hjj : j < ((L1.take j).map (bumpC pr) ++ L1.drop j).length := by rw [bumpC_len]; exact hjl
            obtain ⟨b, hb⟩ := hOj.out.atHead (by omega)
            obtain ⟨b', o', e, y0, y1, y2⟩ := rd_cellP hOj.out.rd hjj
            rw [bump_get hjl hjj] at y0 y1 y2
            rw [hb] at e
            cases e
            subst hb
            have hfz := hOj.out.frozen (b := b) (o := j * 3 + 2) rfl
            have hbr := HBR.out _ (List.getElem_mem hjl)
            have hstep := bump_step (pr := pr) hjl
            have hLj := List.getElem?_eq_getElem hjl
            have hget := bump_get (pr := pr) hjl hjj
            have p0 := HP.out _ hGj.out.mod0
            have q0 := HRC.out _ hGj.out.mod0
            generalize hLJ : (L1.take j).map (bumpC pr) ++ L1.drop j = LJ at *
            generalize L1[j] = t2 at *
            obtain ⟨tn, ta, tr⟩ := t2
            simp only [Nat.zero_add] at y0 y1 y2 hbr
            by_cases hx : tn = pr
            · subst hx
              have hst : pdsC (LJ.set j (bumpC tn (tn, ta, tr))) = (pdsC LJ).set (j * 3 + 2) (.int .i64 ((tr + 1 : Nat) : Int)) := by
                unfold bumpC
                rw [if_pos rfl]
                exact pds_set hjj hget
              have HST2 := Lib.hid (And.intro hstep hst)
              clear hstep hst hLj hget hLJ
              go_wp2_with fail
              refine wp_region_ord (fun W => W.cell? ⟨b, j * 3, none⟩ = some (.string tn) ∧ W.cell? ⟨w.heap.size, 0, none⟩ = some (.slice (some ⟨bb, o, none⟩) rs.length c) ∧ W.cell? ⟨bb, o + k * 3, none⟩ = some (.string tn)) [(0, 0), (0, 1), (0, 2), (0, 3), (1, 4), (0, 5), (1, 6), (0, 7), (0, 8), (0, 9), (0, 10), (1, 11), (0, 12)] (by kernel_rfl) (by kernel_rfl) ?_
              go_wp2_with (first
                | (refine ord_pure rfl rfl rfl (fun K hK => ?_); go_big_quiet_op; refine hK _ ?_; clear hK K)
                                                                | (refine ord_skip rfl rfl ?_; simp only [Act.put, List.setIfInBounds_toArray, List.set_cons_zero, List.set_cons_succ])
                                                                | (refine ord_held rfl rfl rfl (⟨y0, p0, q0⟩) (fun K hK => ?_); apply Exists.intro; refine ⟨fun w' hs => ?_, hK _ ?_⟩; (revert hs; dsimp only; (try simp only [and_imp]); intros; go_simp; rfl); clear hK K)
                                                                | (refine ord_keep rfl rfl (⟨y0, p0, q0⟩) (fun K hK => ?_))
                                                                | (refine ord_drop rfl rfl (fun K hK => ?_))
                                                                | (refine ord_nil ?_))
              go_roundw
              case rel =>
                have hO3 := hOj.out.drew.store (j * 3 + 2) (.int .i64 ((tr + 1 : Nat) : Int))
                have hm : Mod (fun k => blk (some ⟨b, 0, none⟩) = some k) wr.drew (wr.drew.setCell ⟨b, j * 3 + 2, none⟩ (.int .i64 ((tr + 1 : Nat) : Int))) := (Mod.refl (fun k => blk (some (⟨b, 0, none⟩ : Addr)) = some k) wr.drew).setCell (p := ⟨b, j * 3 + 2, none⟩) (fun _ => rfl) _
                have hgd : Grow w1 none wr.drew (some ⟨b, 0, none⟩) := ⟨hGj.out.mod.drew, hGj.out.pos⟩
                exact ⟨j + 1, by go_num, hjt, Lib.hid (by rw [HST2.out.1, HST2.out.2]; exact hO3), Lib.hid (hgd.post hm)⟩
              case measure => simp [intOf]; omega
            · have hne : (tn.toList == pr.toList) = false := by rw [baEq, decide_eq_false hx]
              have hst : LJ.set j (bumpC pr (tn, ta, tr)) = LJ := by
                unfold bumpC
                rw [if_neg hx, ← hget]
                exact List.set_getElem_self hjj
              have HST2 := Lib.hid (hstep.trans hst)
              clear hstep hst hLj hget hLJ
              go_wp2_with fail
              refine wp_region_ord (fun W => W.cell? ⟨b, j * 3, none⟩ = some (.string tn) ∧ W.cell? ⟨w.heap.size, 0, none⟩ = some (.slice (some ⟨bb, o, none⟩) rs.length c) ∧ W.cell? ⟨bb, o + k * 3, none⟩ = some (.string pr)) [(0, 0), (0, 1), (0, 2), (0, 3), (1, 4), (0, 5), (1, 6), (0, 7), (0, 8), (0, 9), (0, 10), (1, 11), (0, 12)] (by kernel_rfl) (by kernel_rfl) ?_
              go_wp2_with (first
                | (refine ord_pure rfl rfl rfl (fun K hK => ?_); go_big_quiet_op; refine hK _ ?_; clear hK K)
                                                                | (refine ord_skip rfl rfl ?_; simp only [Act.put, List.setIfInBounds_toArray, List.set_cons_zero, List.set_cons_succ])
                                                                | (refine ord_held rfl rfl rfl (⟨y0, p0, q0⟩) (fun K hK => ?_); apply Exists.intro; refine ⟨fun w' hs => ?_, hK _ ?_⟩; (revert hs; dsimp only; (try simp only [and_imp]); intros; go_simp; rfl); clear hK K)
                                                                | (refine ord_keep rfl rfl (⟨y0, p0, q0⟩) (fun K hK => ?_))
                                                                | (refine ord_drop rfl rfl (fun K hK => ?_))
                                                                | (refine ord_nil ?_))
              go_roundw
              case rel => exact ⟨j + 1, by go_num, hjt, Lib.hid (by rw [HST2.out]; exact hOj.out.drew), Lib.hid ⟨hGj.out.mod.drew, hGj.out.pos⟩⟩
              case measure => simp [intOf]; omega
          · obtain rfl : j = M'.length := by omega
            have hOe := hOj.out
            rw [← HTL.out, List.take_length, List.drop_length, List.append_nil, HBT.out, HTL.out] at hOe
            have HOE := Lib.hid hOe
            clear hOe
            go_wp2_with fail
            go_roundw
            case rel => exact ⟨k + 1, M', a', c', rfl, by go_num, hlt, HL2, HOE, hGj⟩
            case measure => simp [intOf]; omega
    · obtain rfl : k = rs.length := by omega
      have hl := hL.out
      rw [List.take_length] at hl
      have hO' := hO.out
      rw [List.take_length, tag_z] at hO'
      have hz0 : ∀ x, arZ (toZ M) x = none → cntR rs x = 0 := fun x h => cnt_new hl (by rw [arZ_toZ] at h; cases hm : arOf M x with
        | none => rfl
        | some n => rw [hm] at h; cases h)
      have hnd : ((toZ M).map (·.1)).Nodup := by unfold toZ; rw [List.map_map]; exact (noted_some hl).2.1
      have hMn : M.length ≤ 2 ^ 41 := by
        have h1 := notedL_le hl
        have h3 := HU.out
        simp only [List.length_nil] at h1
        omega
      have hzl : M.length = (toZ M).length := by unfold toZ; rw [List.length_map]
      have hwl : R = (notedZ (toZ M) (relZ rels)).map fun M => predsZ rs M := by rw [HRR.out]; unfold withL; rw [hl]; rfl
      rw [hzl] at hO' hMn ⊢
      have HO' := Lib.hid hO'; have HZ0 := Lib.hid hz0; have HND := Lib.hid hnd; have HWL := Lib.hid hwl
      clear hl hL hO hO' hz0 hnd hwl hzl HRR
      generalize toZ M = L0 at *
      go_wp2_with fail
      go_loopw [6, 11] (fun lv iv wr => ∃ (j : Nat) (Z : ArZ) (a : Option Addr) (c2 : Nat), lv = .slice a Z.length c2 ∧ iv = .int .i64 j ∧ j ≤ rels.length ∧ Z.length ≤ L0.length + j ∧ Hid (notedZ L0 (relZ rels) = notedZ Z (relZ (rels.drop j))) ∧ Hid (Mine.Own wr 134 3 a Z.length c2 (pzsC (tagZ (cntR rs) Z))) ∧ Hid (∀ x, arZ Z x = none → cntR rs x = 0) ∧ Hid ((Z.map (·.1)).Nodup) ∧ Hid (Grow w1 none wr a)) (fun _ iv _ => rels.length - (intOf iv).toNat)
      case atStart => exact ⟨0, L0, a, c2, rfl, rfl, Nat.zero_le _, Nat.le_refl _, rfl, HO', HZ0, HND, hG⟩
      case round =>
        obtain ⟨j, Z, a, c2, rfl, rfl, hj, hZl, hE, hO, hZ0, hN, hG⟩ := hrel
        clear HO' HZ0 HND
        by_cases hjt : j < rels.length
        · obtain ⟨eb, eo, rfl, x0, x1, x2⟩ := rd_cellE (HRE.out.mod (HM1.out.trans hG.out.mod0) (fun _ _ => id)) hjt
          have hd : rels.drop j = rels[j] :: rels.drop (j + 1) := List.drop_eq_getElem_cons hjt
          have he := hE.out
          rw [hd] at he
          clear hd hE
          generalize rels[j] = t at *
          obtain ⟨tn, ta, v1, v2, v3⟩ := t
          simp only at x0 x1 x2
          have he2 : notedZ L0 (relZ rels) = if fitsZ Z (tn, ta) = true then notedZ (noteZ Z (tn, ta)) (relZ (rels.drop (j + 1))) else none := he
          have htl : (tagZ (cntR rs) Z).length = Z.length := by unfold tagZ; rw [List.length_map]
          have hO' : Mine.Own wr.drew 134 3 a (tagZ (cntR rs) Z).length c2 (pzsC (tagZ (cntR rs) Z)) := by rw [htl]; exact hO.out.drew
          have hNA := notePZ_any a c2 (tagZ (cntR rs) Z) tn ta wr.drew hO' (by rw [htl]; omega)
          rw [tagZ_note (hZ0.out tn), arPZ_tag] at hNA
          have htl2 : (tagZ (cntR rs) (noteZ Z (tn, ta))).length = (noteZ Z (tn, ta)).length := by unfold tagZ; rw [List.length_map]
          rw [htl, htl2] at hNA
          have hz2 : ∀ x, arZ (noteZ Z (tn, ta)) x = none → cntR rs x = 0 := fun x h => hZ0.out x (noteZ_none h)
          have hn2 := noteZ_nodup (x := (tn, ta)) hN.out
          have HNA := Lib.hid hNA; have HZ2 := Lib.hid hz2; have HN2 := Lib.hid hn2; have HE2 := Lib.hid he2; have HNL := Lib.hid (noteZ_len Z (tn, ta))
          generalize fitsZ Z (tn, ta) = fb at *
          generalize noteZ Z (tn, ta) = Z2 at *
          clear he he2 hNA hz2 hn2 hO' htl htl2 hO hZ0 hN
          go_wp2_with fail
          refine wp_region_ord (fun W => W.cell? ⟨eb, eo + j * 3, none⟩ = some (.string tn) ∧ W.cell? ⟨eb, eo + j * 3 + 1, none⟩ = some (.int .i64 ta)) [(0, 0), (0, 1), (0, 2), (0, 3), (0, 4), (1, 5), (0, 6), (0, 7), (0, 8), (0, 9), (1, 10), (3, 11), (0, 12), (0, 13), (0, 14), (0, 15), (0, 16)] (by kernel_rfl) (by kernel_rfl) ?_
          go_wp2_with (first
            | (refine ord_pure rfl rfl rfl (fun K hK => ?_); go_big_quiet_op; refine hK _ ?_; clear hK K)
                                                                | (refine ord_skip rfl rfl ?_; simp only [Act.put, List.setIfInBounds_toArray, List.set_cons_zero, List.set_cons_succ])
                                                                | (refine ord_held rfl rfl rfl (⟨x0, x1⟩) (fun K hK => ?_); apply Exists.intro; refine ⟨fun w' hs => ?_, hK _ ?_⟩; (revert hs; dsimp only; (try simp only [and_imp]); intros; go_simp; rfl); clear hK K)
                                                                | (refine ord_keep rfl rfl (⟨x0, x1⟩) (fun K hK => ?_))
                                                                | (refine ord_drop rfl rfl (fun K hK => ?_))
                                                                | (refine ord_nil ?_))
          refine HNA.out.mono ?_
          rintro e w5 ⟨a5, c5, rfl, hO5, hG5⟩
          have hgd : Grow w1 none wr.drew a := ⟨hG.out.mod.drew, hG.out.pos⟩
          have HG5 := Lib.hid (hgd.trans hG5); have HO5 := Lib.hid hO5
          clear hgd hG5 hO5 HNA x0 x1 x2
          refine hK _ _ ?_; clear hK K
          cases fb with
          | false =>
            have he := HE2.out
            rw [if_neg (by simp)] at he
            have HE3 := Lib.hid he
            clear HE2 he
            go_wp2_with (first
              | (refine ord_pure rfl rfl rfl (fun K hK => ?_); go_big_quiet_op; refine hK _ ?_; clear hK K)
                                                                | (refine ord_skip rfl rfl ?_; simp only [Act.put, List.setIfInBounds_toArray, List.set_cons_zero, List.set_cons_succ])
                                                                | (refine ord_held rfl rfl rfl (trivial) (fun K hK => ?_); apply Exists.intro; refine ⟨fun w' hs => ?_, hK _ ?_⟩; (revert hs; dsimp only; (try simp only [and_imp]); intros; go_simp; rfl); clear hK K)
                                                                | (refine ord_keep rfl rfl (trivial) (fun K hK => ?_))
                                                                | (refine ord_drop rfl rfl (fun K hK => ?_))
                                                                | (refine ord_nil ?_))
            exact bodyPost_ret (results_tmp2 rfl _ _ _) rfl ⟨RWPost.no (by rw [HWL.out, HE3.out]; rfl) rfl, HM1.out.trans HG5.out.mod0⟩
          | true =>
            have he := HE2.out
            rw [if_pos rfl] at he
            have HE3 := Lib.hid he
            clear HE2 he
            go_wp2_with (first
              | (refine ord_pure rfl rfl rfl (fun K hK => ?_); go_big_quiet_op; refine hK _ ?_; clear hK K)
                                                                | (refine ord_skip rfl rfl ?_; simp only [Act.put, List.setIfInBounds_toArray, List.set_cons_zero, List.set_cons_succ])
                                                                | (refine ord_held rfl rfl rfl (trivial) (fun K hK => ?_); apply Exists.intro; refine ⟨fun w' hs => ?_, hK _ ?_⟩; (revert hs; dsimp only; (try simp only [and_imp]); intros; go_simp; rfl); clear hK K)
                                                                | (refine ord_keep rfl rfl (trivial) (fun K hK => ?_))
                                                                | (refine ord_drop rfl rfl (fun K hK => ?_))
                                                                | (refine ord_nil ?_))
            go_roundw
            case rel => exact ⟨j + 1, Z2, a5, c5, rfl, by go_num, hjt, by have := HNL.out; omega, HE3, HO5, HZ2, HN2, HG5⟩
            case measure => simp [intOf]; omega
        · obtain rfl : j = rels.length := by omega
          have he := hE.out
          rw [List.drop_length] at he
          have he2 : notedZ L0 (relZ rels) = some Z := he
          have htl : (tagZ (cntR rs) Z).length = Z.length := by unfold tagZ; rw [List.length_map]
          have hnt : ((tagZ (cntR rs) Z).map (·.1)).Nodup := by unfold tagZ; rw [List.map_map]; exact hN.out
          have hri := rising_any (tagZ (cntR rs) Z) a c2 wr hO.out.rd hnt (by rw [htl]; omega)
          rw [htl, rising_tag] at hri
          have hRp : R = some (predsZ rs Z) := by rw [HWL.out, he2]; rfl
          have hpl : (predsZ rs Z).length = Z.length := by unfold predsZ; rw [List.length_map, (sortN_perm _).length_eq, List.length_map]
          have HRI := Lib.hid hri; have HRP := Lib.hid hRp; have HPL := Lib.hid hpl
          clear he he2 htl hnt hri hRp hpl hE hO hZ0 hN
          go_wp2_with fail
          refine HRI.out.mono ?_
          rintro e w6 ⟨a6, c6, rfl, hO6, hG6⟩
          have HO6 := Lib.hid hO6; have HG6 := Lib.hid hG6
          clear hO6 hG6 HRI
          go_wp2_with fail
          refine bodyPost_ret (results_tmp2 rfl _ _ _) rfl ⟨RWPost.yes (a := a6) (c := c6) HRP.out (by rw [HPL.out]; rfl) (by rw [HPL.out]; exact HO6.out) (fun b hb => ?_), (HM1.out.trans hG.out.mod0).trans HG6.out.mod0⟩
          have h1 := HG6.out.fresh b hb
          have h2 := (HM1.out.trans hG.out.mod0).size
          omega
theorem refArities_any (rs : List Rm) (v0 : Value) (w : World) (hr : RsAt w v0 rs) (hn : rs.length ≤ 2 ^ 20) (hs : ∀ r ∈ rs, SchOk r) (hU : (usesAll rs).length ≤ 2 ^ 41) :
    Calls Tryz.prog 31 #[.agg #[v0]] w fun e w' => RWPost w w' e (withL rs []) ∧ Mod (fun _ => False) w w' := by
  have hm1 : Mod (fun _ => False) w (w.alloc (.cells #[.agg #[v0]] 24)) := (Mod.refl _ w).alloc _
  have hm2 : Mod (fun _ => False) w (w.alloc (.cells #[v0] 24)) := (Mod.refl _ w).alloc _
  have HM1 := Lib.hid hm2
  have HW := Lib.hid (refWith_any rs v0 [] none 0 _ (hr.mod0 hm2) hn hs hU (Rd.nil _ _) (by simp))
  have hrz : relZ [] = [] := rfl
  rw [hrz] at HW
  obtain ⟨ad, c, xv, rfl, _⟩ := hr
  have c1 : (w.alloc (.cells #[.slice ad rs.length c] 24)).cell? ⟨w.heap.size, 0, none⟩ = some (.slice ad rs.length c) := cell_new rfl
  generalize withL rs [] = R at *
  clear hs hU hm1 hm2 hrz
  go_enter Tryz.func31, Tryz.ntmps31
  go_wp2_with fail
  refine HW.out.mono ?_
  rintro e w2 ⟨hP, hM2⟩
  have HM2 := Lib.hid (HM1.out.trans hM2)
  have hz : w.heap.size ≤ (w.alloc (.cells #[.slice ad rs.length c] 24)).heap.size := by rw [World.size_alloc]; omega
  have HSZ := Lib.hid hz
  clear hM2 HW c1 hz
  cases R with
  | none =>
    obtain rfl : e = _ := hP
    go_wp2_with fail
    exact bodyPost_ret (results_tmp2 rfl _ _ _) rfl ⟨RWPost.no rfl rfl, HM2.out⟩
  | some ps =>
    obtain ⟨a, c3, rfl, hC, hF⟩ := hP
    have HC := Lib.hid hC; have HF := Lib.hid hF
    clear hC hF
    go_wp2_with fail
    exact bodyPost_ret (results_tmp2 rfl _ _ _) rfl ⟨RWPost.yes (a := a) (c := c3) rfl rfl HC.out (fun b hb => by have h1 := HF.out b hb; have h2 := HSZ.out; omega), HM2.out⟩
end Go.Proofs.YteecbbnpgmceiaaGreatDoor
