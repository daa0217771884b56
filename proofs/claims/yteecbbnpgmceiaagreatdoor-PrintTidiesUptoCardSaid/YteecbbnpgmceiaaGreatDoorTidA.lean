/-
  A sorted set of rules beside their texts: its order, and where a text stands.
-/
import Derived.Test.YteecbbnpgmceiaaGreatDoorTidyL
import Derived.Test.YteecbbnpgmceiaaGreatDoorOrd
import Derived.Test.YteecbbnpgmceiaaGreatDoorData
import Derived.Test.YteecbbnpgmceiaaGreatDoorInsK
import Derived.Test.YteecbbnpgmceiaaGreatDoorSame
import Derived.Sort.Walk0
import Derived.Laws.Cover1
namespace Go.Proofs.YteecbbnpgmceiaaGreatDoor
open Go Go.RowKit Go.Mine
set_option linter.unusedVariables false
set_option maxHeartbeats 4000000
set_option maxRecDepth 100000

/-- a text beside its rule, as it lies: the rule's two slices -/
abbrev Wv := Wn × Value × Value
def wnC (x : Wv) : List Value := [.string x.1.1, .string x.1.2.head.pred, x.2.1, x.2.2]
def wnV (x : Wv) : Value := .agg #[.string x.1.1, .string x.1.2.head.pred, x.2.1, x.2.2]
def wnsC (xs : List Wv) : List Value := xs.flatMap wnC
@[simp] theorem wnC_length (x : Wv) : (wnC x).length = 4 := rfl
@[simp] theorem wnsC_length (xs : List Wv) : (wnsC xs).length = xs.length * 4 := flat_len wnC_length xs
theorem wnsC_append (l m : List Wv) : wnsC (l ++ m) = wnsC l ++ wnsC m := by simp [wnsC]
theorem rd_cellW {w : World} {a : Option Addr} {xs : List Wv} (h : Rd w a (wnsC xs)) {i : Nat} (hi : i < xs.length) :
    ∃ b o, a = some ⟨b, o, none⟩ ∧ w.cell? ⟨b, o + i * 4, none⟩ = some (.string xs[i].1.1) ∧ w.cell? ⟨b, o + i * 4 + 1, none⟩ = some (.string xs[i].1.2.head.pred) ∧ w.cell? ⟨b, o + i * 4 + 2, none⟩ = some xs[i].2.1 ∧ w.cell? ⟨b, o + i * 4 + 3, none⟩ = some xs[i].2.2 := by
  have h1 := flat_get (f := wnC) (j := 0) wnC_length (List.getElem?_eq_getElem hi) (by omega)
  have h2 := flat_get (f := wnC) (j := 1) wnC_length (List.getElem?_eq_getElem hi) (by omega)
  have h3 := flat_get (f := wnC) (j := 2) wnC_length (List.getElem?_eq_getElem hi) (by omega)
  have h4 := flat_get (f := wnC) (j := 3) wnC_length (List.getElem?_eq_getElem hi) (by omega)
  obtain ⟨b, o, e, q1⟩ := h (i * 4 + 0) _ (h1.trans rfl)
  obtain ⟨b', o', e', q2⟩ := h (i * 4 + 1) _ (h2.trans rfl)
  obtain ⟨b2, o2, e2, q3⟩ := h (i * 4 + 2) _ (h3.trans rfl)
  obtain ⟨b3, o3, e3, q4⟩ := h (i * 4 + 3) _ (h4.trans rfl)
  rw [e] at e' e2 e3
  cases e'; cases e2; cases e3
  exact ⟨b, o, e, q1, by rw [Nat.add_assoc]; exact q2, by rw [Nat.add_assoc]; exact q3, by rw [Nat.add_assoc]; exact q4⟩
theorem tiWn : TI Tryz.prog 142 83 4 80 := TI.mk' (z := .agg #[.string ByteArray.empty, .string ByteArray.empty, .slice none 0 0, .slice none 0 0]) (by kernel_rfl) (by kernel_rfl) rfl (by omega)

/-! the order -/
theorem lssT (x y : ByteArray) : Op.bytesLess x.toList y.toList = decide (tb x < tb y) := by
  have e1 : x.toList = tb x := ByteArray.toList_eq x
  have e2 : y.toList = tb y := ByteArray.toList_eq y
  rw [e1, e2, bytesLess_eq]
def cmpI (x y : ByteArray) : Int := if tb x < tb y then -1 else if tb y < tb x then 1 else 0
theorem cmpI_neg {x y : ByteArray} : cmpI x y < 0 ↔ tb x < tb y := by
  unfold cmpI
  split
  · rename_i h; exact ⟨fun _ => h, fun _ => by decide⟩
  · rename_i h
    refine ⟨fun h2 => ?_, fun h2 => absurd h2 h⟩
    split at h2 <;> omega
theorem cmpI_zero {x y : ByteArray} : cmpI x y = 0 ↔ x = y := by
  unfold cmpI
  constructor
  · intro h
    split at h
    · omega
    · rename_i h1
      split at h
      · omega
      · rename_i h2
        exact tb_inj (List.le_antisymm (List.not_lt.1 h2) (List.not_lt.1 h1))
  · rintro rfl
    rw [if_neg (List.lt_irrefl _), if_neg (List.lt_irrefl _)]
theorem nan_any (x : ByteArray) (w : World) : Calls Tryz.prog 83 #[.string x] w fun e w' => e = .returned (.bool false) ∧ w = w' := by
  go_enter Tryz.func83, Tryz.ntmps83
  go_wp2
  go_ret
  exact ⟨by simp, rfl⟩
theorem compare_any (x y : ByteArray) (w : World) : Calls Tryz.prog 39 #[.string x, .string y] w fun e w' => e = .returned (.int .i64 (cmpI x y)) ∧ w = w' := by
  have h1 := lssT x y
  unfold cmpI
  by_cases hl : tb x < tb y
  · rw [decide_eq_true hl] at h1
    rw [if_pos hl]
    clear hl
    go_enter Tryz.func39, Tryz.ntmps39
    go_wp2_with (first
      | (go_at_call 83; refine (nan_any _ _).mono ?_; rintro e w' ⟨rfl, rfl⟩))
    go_ret
    exact ⟨rfl, rfl⟩
  · rw [decide_eq_false hl] at h1
    rw [if_neg hl]
    by_cases hg : tb y < tb x
    · have h2 : (x.toList == y.toList) = false := beq_eq_false_iff_ne.2 (fun e => by
        rw [ByteArray.toList_eq, ByteArray.toList_eq] at e
        unfold tb at hg; rw [e] at hg; exact List.lt_irrefl _ hg)
      rw [if_pos hg]
      clear hl hg
      go_enter Tryz.func39, Tryz.ntmps39
      go_wp2_with (first
        | (go_at_call 83; refine (nan_any _ _).mono ?_; rintro e w' ⟨rfl, rfl⟩))
      go_ret
      exact ⟨rfl, rfl⟩
    · obtain rfl : x = y := tb_inj (List.le_antisymm (List.not_lt.1 hg) (List.not_lt.1 hl))
      have h2 : (x.toList == x.toList) = true := beq_self_eq_true _
      rw [if_neg hg]
      clear hl hg
      go_enter Tryz.func39, Tryz.ntmps39
      go_wp2_with (first
        | (go_at_call 83; refine (nan_any _ _).mono ?_; rintro e w' ⟨rfl, rfl⟩))
      go_ret
      exact ⟨rfl, rfl⟩
theorem order_any (x y : Wv) (w : World) : Calls Tryz.prog 38 #[wnV x, wnV y] w fun e w' => e = .returned (.int .i64 (cmpI x.1.1 y.1.1)) ∧ Mod (fun _ => False) w w' := by
  have HC := fun W => compare_any x.1.1 y.1.1 W
  unfold wnV
  obtain ⟨⟨xt, xr⟩, xs, xb⟩ := x
  obtain ⟨⟨yt, yr⟩, ys, yb⟩ := y
  simp only at HC ⊢
  generalize cmpI xt yt = c at *
  generalize xr.head.pred = xp at *
  generalize yr.head.pred = yp at *
  have d0 : ((w.alloc (.cells #[.string xt, .string xp, xs, xb] 83)).alloc (.cells #[.string yt, .string yp, ys, yb] 83)).cell? ⟨w.heap.size, 0, none⟩ = some (.string xt) := cell_old (cell_new rfl)
  have d1 : ((w.alloc (.cells #[.string xt, .string xp, xs, xb] 83)).alloc (.cells #[.string yt, .string yp, ys, yb] 83)).cell? ⟨w.heap.size + 1, 0, none⟩ = some (.string yt) := cell_new rfl (by simp)
  have hm : Mod (fun _ => False) w ((w.alloc (.cells #[.string xt, .string xp, xs, xb] 83)).alloc (.cells #[.string yt, .string yp, ys, yb] 83)) := ((Mod.refl _ w).alloc _).alloc _
  have HM := Lib.hid hm
  have HC := Lib.hid HC
  clear hm
  go_enter Tryz.func38, Tryz.ntmps38
  go_wp2_with fail
  refine (HC.out _).mono ?_
  rintro e w' ⟨rfl, rfl⟩
  go_wp2_with fail
  go_ret
  exact ⟨rfl, HM.out⟩
/-- the set: its order, its rules beside their texts -/
def fnO : Value := .func (.func 38) #[] #[]
def SetAt (w : World) (B : Nat) (a : Option Addr) (n c : Nat) : Prop := w.heap[B]? = some (.cells #[fnO, .slice a n c] 145 (0, 0))
theorem SetAt.trans' {w w' : World} {B : Nat} {a : Option Addr} {n c : Nat} (h : SetAt w B a n c) (m : Mod (fun _ => False) w w') : SetAt w' B a n c := m.at h id
theorem cmp_any (B : Nat) (a : Option Addr) (n c : Nat) (x y : Wv) (w : World) (hS : SetAt w B a n c) : Calls Tryz.prog 80 #[.pointer (some ⟨B, 0, none⟩), wnV x, wnV y] w fun e w' => e = .returned (.int .i64 (cmpI x.1.1 y.1.1)) ∧ Mod (fun _ => False) w w' := by
  have HC := Lib.hid (fun W => order_any x y W)
  unfold wnV at HC ⊢
  obtain ⟨⟨xt, xr⟩, xs, xb⟩ := x
  obtain ⟨⟨yt, yr⟩, ys, yb⟩ := y
  simp only at HC ⊢
  generalize cmpI xt yt = c at *
  generalize xr.head.pred = xp at *
  generalize yr.head.pred = yp at *
  have hm : Mod (fun _ => False) w ((w.alloc (.cells #[.string xt, .string xp, xs, xb] 83)).alloc (.cells #[.string yt, .string yp, ys, yb] 83)) := ((Mod.refl _ w).alloc _).alloc _
  have hb0 := heap_two1 w (.cells #[.string xt, .string xp, xs, xb] 83) (.cells #[.string yt, .string yp, ys, yb] 83)
  have hb1 := heap_two2 w (.cells #[.string xt, .string xp, xs, xb] 83) (.cells #[.string yt, .string yp, ys, yb] 83)
  have s0 := cell_at (j := 0) (hm.at hS id) rfl
  have HM := Lib.hid hm
  have HS := Lib.hid hS
  clear hm hS
  go_enter Tryz.func80, Tryz.ntmps80
  unfold fnO at s0
  have hn : ∀ w : World, (binOp .eql 85 (.func (.func 38) #[] #[]) .nilFunc).run Tryz.prog w = .ok (.bool false) w := fun w => by kernel_rfl
  go_wp2_with fail
  have x0 := cell_at (j := 0) hb0 rfl; have x1 := cell_at (j := 1) hb0 rfl; have x2 := cell_at (j := 2) hb0 rfl; have x3 := cell_at (j := 3) hb0 rfl
  have y0 := cell_at (j := 0) hb1 rfl; have y1 := cell_at (j := 1) hb1 rfl; have y2 := cell_at (j := 2) hb1 rfl; have y3 := cell_at (j := 3) hb1 rfl
  clear hb0 hb1
  refine wp_region_ord (fun w' => w'.cell? ⟨B, 0, none⟩ = some (.func (.func 38) #[] #[]) ∧ (w'.cell? ⟨w.heap.size, 0, none⟩ = some (.string xt) ∧ w'.cell? ⟨w.heap.size, 1, none⟩ = some (.string xp) ∧ w'.cell? ⟨w.heap.size, 2, none⟩ = some xs ∧ w'.cell? ⟨w.heap.size, 3, none⟩ = some xb) ∧ (w'.cell? ⟨w.heap.size + 1, 0, none⟩ = some (.string yt) ∧ w'.cell? ⟨w.heap.size + 1, 1, none⟩ = some (.string yp) ∧ w'.cell? ⟨w.heap.size + 1, 2, none⟩ = some ys ∧ w'.cell? ⟨w.heap.size + 1, 3, none⟩ = some yb)) [(0, 0), (0, 1), (0, 2), (1, 3), (1, 4), (1, 5), (3, 6), (0, 7)] (by kernel_rfl) (by kernel_rfl) ?_
  go_wp2_with (first
    | (refine ord_pure rfl rfl rfl (fun K hK => ?_); go_big_quiet_op; refine hK _ ?_; clear hK K)
                                                                | (refine ord_skip rfl rfl ?_; simp only [Act.put, List.setIfInBounds_toArray, List.set_cons_zero, List.set_cons_succ])
                                                                | (refine ord_held rfl rfl rfl (⟨s0, ⟨x0, x1, x2, x3⟩, ⟨y0, y1, y2, y3⟩⟩) (fun K hK => ?_); apply Exists.intro; refine ⟨fun w' hs => ?_, hK _ ?_⟩; (revert hs; dsimp only; (try simp only [and_imp]); intros; go_simp; rfl); clear hK K)
                                                                | (refine ord_keep rfl rfl (⟨s0, ⟨x0, x1, x2, x3⟩, ⟨y0, y1, y2, y3⟩⟩) (fun K hK => ?_))
                                                                | (refine ord_drop rfl rfl (fun K hK => ?_))
                                                                | (refine ord_nil ?_))
  refine (HC.out _).mono ?_
  rintro e w' ⟨rfl, hM2⟩
  have HM2 := Lib.hid (HM.out.drew.trans hM2)
  clear hM2 x0 x1 x2 x3 y0 y1 y2 y3 s0
  go_wp2_with (first
    | (refine ord_pure rfl rfl rfl (fun K hK => ?_); go_big_quiet_op; refine hK _ ?_; clear hK K)
                                                                | (refine ord_skip rfl rfl ?_; simp only [Act.put, List.setIfInBounds_toArray, List.set_cons_zero, List.set_cons_succ])
                                                                | (refine ord_held rfl rfl rfl (trivial) (fun K hK => ?_); apply Exists.intro; refine ⟨fun w' hs => ?_, hK _ ?_⟩; (revert hs; dsimp only; (try simp only [and_imp]); intros; go_simp; rfl); clear hK K)
                                                                | (refine ord_keep rfl rfl (trivial) (fun K hK => ?_))
                                                                | (refine ord_drop rfl rfl (fun K hK => ?_))
                                                                | (refine ord_nil ?_))
  go_ret
  exact ⟨rfl, HM2.out⟩
/-- the order, bound to the set -/
def cmpF (B : Nat) : Value := .func (.func 80) #[.pointer (some ⟨B, 0, none⟩)] #[]
def tx (xs : List Wv) : List Wn := xs.map (·.1)
@[simp] theorem tx_len (xs : List Wv) : (tx xs).length = xs.length := by simp [tx]
theorem tx_get (xs : List Wv) (i : Nat) (h : i < (tx xs).length) : (tx xs)[i] = (xs[i]'(by simpa using h)).1 := by simp [tx]
theorem search_any (B : Nat) (a0 : Option Addr) (n0 c0 : Nat) (xs : List Wv) (a : Option Addr) (c : Nat) (t : Wv) (w : World) (hS : SetAt w B a0 n0 c0) (hR : Rd w a (wnsC xs)) (hn : xs.length ≤ 2 ^ 40) (hs : SortT (tx xs)) :
    Calls Tryz.prog 137 #[.slice a xs.length c, wnV t, cmpF B] w fun e w' => e = .returned (.tuple #[.int .i64 (lbT (tx xs) t.1.1), .bool (hasT (tx xs) t.1.1)]) ∧ Mod (fun _ => False) w w' := by
  have HCM := Lib.hid (fun (x : Wv) (W : World) (m : Mod (fun _ => False) w W) => cmp_any B a0 n0 c0 x t W (hS.trans' m))
  have HR := Lib.hid hR
  have HU := Lib.hid (fun k (h1 : k ≤ (tx xs).length) => lbT_uniq (s := t.1.1) hs (k := k) h1)
  have HT := Lib.hid (hasT_iff (xs := tx xs) (s := t.1.1))
  have HT0 := Lib.hid (hasT_out (xs := tx xs) (s := t.1.1))
  have HTT := Lib.hid (show wnV t = .agg #[.string t.1.1, .string t.1.2.head.pred, t.2.1, t.2.2] from rfl)
  have HSO : Hid (∀ (k h : Nat) (hk : k < xs.length) (hx : h < xs.length), k < h → tb xs[k].1.1 < tb xs[h].1.1) := fun k h hk hx e => by
    have := sortT_get hs (i := k) (j := h) (by simpa using hk) (by simpa using hx) e
    simpa [tx] using this
  clear hS hR hs
  unfold wnV at HCM ⊢
  generalize t.1.1 = tt at *
  generalize t.1.2.head.pred = tp at *
  generalize t.2.1 = ts at *
  generalize t.2.2 = tbv at *
  have hm0 : Mod (fun _ => False) w (w.alloc (.cells #[.string tt, .string tp, ts, tbv] 83)) := (Mod.refl _ w).alloc _
  have HM0 := Lib.hid hm0
  have HB0 := Lib.hid (heap_alloc_new w (.cells #[.string tt, .string tp, ts, tbv] 83))
  clear hm0
  unfold cmpF
  generalize hN : lbT (tx xs) tt = L at *
  generalize hQ : hasT (tx xs) tt = Q at *
  have HN := Lib.hid hN; have HQ := Lib.hid hQ
  clear hN hQ
  go_enter Tryz.func137, Tryz.ntmps137
  go_wp2_with fail
  generalize w.alloc (.cells #[.string tt, .string tp, ts, tbv] 83) = w0 at *
  go_loopw [9, 10, 11] (fun iv jv hv wr => ∃ i j : Nat, iv = .int .i64 i ∧ jv = .int .i64 j ∧ i ≤ j ∧ j ≤ xs.length ∧ Hid (∀ k (hk : k < xs.length), k < i → tb xs[k].1.1 < tb tt) ∧ Hid (∀ k (hk : k < xs.length), j ≤ k → ¬ tb xs[k].1.1 < tb tt) ∧ Hid (Mod (fun _ => False) w0 wr)) (fun iv jv _ _ => (intOf jv).toNat - (intOf iv).toNat)
  case atStart => exact ⟨0, xs.length, rfl, rfl, Nat.zero_le _, Nat.le_refl _, Lib.hid (fun k _ h => absurd h (Nat.not_lt_zero _)), Lib.hid (fun k h1 h2 => absurd h1 (by omega)), Lib.hid (Mod.refl _ _)⟩
  case round =>
    obtain ⟨i, j, rfl, rfl, hij, hjn, hlo, hhi, hM⟩ := hrel
    have hb := hM.out.at HB0.out id
    have y0 := cell_at (j := 0) hb rfl; have y1 := cell_at (j := 1) hb rfl; have y2 := cell_at (j := 2) hb rfl; have y3 := cell_at (j := 3) hb rfl
    clear hb
    by_cases hlt : i < j
    · obtain ⟨h, hh⟩ : ∃ h, h = (i + j) / 2 := ⟨_, rfl⟩
      have h1 : i ≤ h := by omega
      have h2 : h < j := by omega
      have hx : h < xs.length := by omega
      obtain ⟨b, o, rfl, x0, x1, x2, x3⟩ := rd_cellW (HR.out.mod (HM0.out.trans hM.out) (fun _ _ => id)) hx
      have HC := Lib.hid (HCM.out xs[h])
      have HHH := Lib.hid hh
      clear hh
      go_wp2_with fail
      have eh : ((i : Int) + (j : Int)) / 2 = (h : Int) := by have := HHH.out; omega
      rw [eh]
      have hcw := HC.out wr.drew (HM0.out.trans hM.out.drew)
      have hc1 : tb xs[h].1.1 < tb tt → cmpI xs[h].1.1 tt = -1 := fun hl => by unfold cmpI; rw [if_pos hl]
      have hc2 : ¬ tb xs[h].1.1 < tb tt → ¬ (cmpI xs[h].1.1 tt < 0) := fun hl hc => hl (cmpI_neg.1 hc)
      have HL2 : Hid (∀ k (hk : k < xs.length), k < h + 1 → tb xs[h].1.1 < tb tt → tb xs[k].1.1 < tb tt) := fun k hk h1 hl => by
        rcases Nat.lt_or_ge k h with e | e
        · exact List.lt_trans (HSO.out k h hk hx e) hl
        · obtain rfl : k = h := by omega
          exact hl
      have HH2 : Hid (∀ k (hk : k < xs.length), h ≤ k → ¬ tb xs[h].1.1 < tb tt → ¬ tb xs[k].1.1 < tb tt) := fun k hk h1 hl hl2 => by
        rcases Nat.eq_or_lt_of_le h1 with e | e
        · subst e; exact hl hl2
        · exact hl (List.lt_trans (HSO.out h k hx hk e) hl2)
      clear eh
      unfold wnV at hcw
      generalize xs[h].1.1 = xt at *
      generalize xs[h].1.2.head.pred = xp at *
      generalize xs[h].2.1 = xs1 at *
      generalize xs[h].2.2 = xb1 at *
      have HCW := Lib.hid hcw
      clear hcw
      generalize cmpI xt tt = cv at *
      by_cases hl : tb xt < tb tt
      · have hcv := hc1 hl
        subst hcv
        have HLL := Lib.hid hl
        clear hc1 hc2 hl
        refine wp_region_ord (fun w' => (w'.cell? ⟨b, o + h * 4, none⟩ = some (.string xt) ∧ w'.cell? ⟨b, o + h * 4 + 1, none⟩ = some (.string xp) ∧ w'.cell? ⟨b, o + h * 4 + 2, none⟩ = some xs1 ∧ w'.cell? ⟨b, o + h * 4 + 3, none⟩ = some xb1) ∧ (w'.cell? ⟨w.heap.size, 0, none⟩ = some (.string tt) ∧ w'.cell? ⟨w.heap.size, 1, none⟩ = some (.string tp) ∧ w'.cell? ⟨w.heap.size, 2, none⟩ = some ts ∧ w'.cell? ⟨w.heap.size, 3, none⟩ = some tbv)) [(0, 0), (0, 1), (0, 2), (0, 3), (1, 4), (1, 5), (3, 6), (0, 7)] (by kernel_rfl) (by kernel_rfl) ?_
        go_wp2_with (first
          | (refine ord_pure rfl rfl rfl (fun K hK => ?_); go_big_quiet_op; refine hK _ ?_; clear hK K)
                                                                | (refine ord_skip rfl rfl ?_; simp only [Act.put, List.setIfInBounds_toArray, List.set_cons_zero, List.set_cons_succ])
                                                                | (refine ord_held rfl rfl rfl (⟨⟨x0, x1, x2, x3⟩, ⟨y0, y1, y2, y3⟩⟩) (fun K hK => ?_); apply Exists.intro; refine ⟨fun w' hs => ?_, hK _ ?_⟩; (revert hs; dsimp only; (try simp only [and_imp]); intros; go_simp; rfl); clear hK K)
                                                                | (refine ord_keep rfl rfl (⟨⟨x0, x1, x2, x3⟩, ⟨y0, y1, y2, y3⟩⟩) (fun K hK => ?_))
                                                                | (refine ord_drop rfl rfl (fun K hK => ?_))
                                                                | (refine ord_nil ?_))
        refine HCW.out.mono ?_
        rintro e w2 ⟨rfl, hM2⟩
        have HM2 := Lib.hid (hM.out.drew.trans hM2)
        clear hM2 x0 x1 x2 x3 y0 y1 y2 y3 HCW
        go_wp2_with (first
          | (refine ord_pure rfl rfl rfl (fun K hK => ?_); go_big_quiet_op; refine hK _ ?_; clear hK K)
                                                                | (refine ord_skip rfl rfl ?_; simp only [Act.put, List.setIfInBounds_toArray, List.set_cons_zero, List.set_cons_succ])
                                                                | (refine ord_held rfl rfl rfl (trivial) (fun K hK => ?_); apply Exists.intro; refine ⟨fun w' hs => ?_, hK _ ?_⟩; (revert hs; dsimp only; (try simp only [and_imp]); intros; go_simp; rfl); clear hK K)
                                                                | (refine ord_keep rfl rfl (trivial) (fun K hK => ?_))
                                                                | (refine ord_drop rfl rfl (fun K hK => ?_))
                                                                | (refine ord_nil ?_))
        go_roundw
        case rel => exact ⟨h + 1, j, by go_num, rfl, by omega, hjn, Lib.hid (fun k hk e => HL2.out k hk e HLL.out), hhi, HM2⟩
        case measure => simp [intOf]; omega
      · have hcv := hc2 hl
        have HLL := Lib.hid hl
        clear hc1 hc2 hl
        refine wp_region_ord (fun w' => (w'.cell? ⟨b, o + h * 4, none⟩ = some (.string xt) ∧ w'.cell? ⟨b, o + h * 4 + 1, none⟩ = some (.string xp) ∧ w'.cell? ⟨b, o + h * 4 + 2, none⟩ = some xs1 ∧ w'.cell? ⟨b, o + h * 4 + 3, none⟩ = some xb1) ∧ (w'.cell? ⟨w.heap.size, 0, none⟩ = some (.string tt) ∧ w'.cell? ⟨w.heap.size, 1, none⟩ = some (.string tp) ∧ w'.cell? ⟨w.heap.size, 2, none⟩ = some ts ∧ w'.cell? ⟨w.heap.size, 3, none⟩ = some tbv)) [(0, 0), (0, 1), (0, 2), (0, 3), (1, 4), (1, 5), (3, 6), (0, 7)] (by kernel_rfl) (by kernel_rfl) ?_
        go_wp2_with (first
          | (refine ord_pure rfl rfl rfl (fun K hK => ?_); go_big_quiet_op; refine hK _ ?_; clear hK K)
                                                                | (refine ord_skip rfl rfl ?_; simp only [Act.put, List.setIfInBounds_toArray, List.set_cons_zero, List.set_cons_succ])
                                                                | (refine ord_held rfl rfl rfl (⟨⟨x0, x1, x2, x3⟩, ⟨y0, y1, y2, y3⟩⟩) (fun K hK => ?_); apply Exists.intro; refine ⟨fun w' hs => ?_, hK _ ?_⟩; (revert hs; dsimp only; (try simp only [and_imp]); intros; go_simp; rfl); clear hK K)
                                                                | (refine ord_keep rfl rfl (⟨⟨x0, x1, x2, x3⟩, ⟨y0, y1, y2, y3⟩⟩) (fun K hK => ?_))
                                                                | (refine ord_drop rfl rfl (fun K hK => ?_))
                                                                | (refine ord_nil ?_))
        refine HCW.out.mono ?_
        rintro e w2 ⟨rfl, hM2⟩
        have HM2 := Lib.hid (hM.out.drew.trans hM2)
        clear hM2 x0 x1 x2 x3 y0 y1 y2 y3 HCW
        go_wp2_with (first
          | (refine ord_pure rfl rfl rfl (fun K hK => ?_); go_big_quiet_op; refine hK _ ?_; clear hK K)
                                                                | (refine ord_skip rfl rfl ?_; simp only [Act.put, List.setIfInBounds_toArray, List.set_cons_zero, List.set_cons_succ])
                                                                | (refine ord_held rfl rfl rfl (trivial) (fun K hK => ?_); apply Exists.intro; refine ⟨fun w' hs => ?_, hK _ ?_⟩; (revert hs; dsimp only; (try simp only [and_imp]); intros; go_simp; rfl); clear hK K)
                                                                | (refine ord_keep rfl rfl (trivial) (fun K hK => ?_))
                                                                | (refine ord_drop rfl rfl (fun K hK => ?_))
                                                                | (refine ord_nil ?_))
        go_roundw
        case rel => exact ⟨i, h, rfl, rfl, h1, by omega, hlo, Lib.hid (fun k hk e => HH2.out k hk e HLL.out), HM2⟩
        case measure => simp [intOf]; omega
    · obtain rfl : i = j := by omega
      have hL : i = L := by
        refine HU.out i (by simpa using hjn) (fun k hk e => ?_) (fun k hk e => ?_)
        · rw [tx_get]; exact hlo.out k (by simpa using hk) e
        · rw [tx_get]; exact hhi.out k (by simpa using hk) e
      subst hL
      by_cases hin : i < xs.length
      · have hq : Q = decide (xs[i].1.1 = tt) := by
          have := HT.out (by rw [tx_len]; exact hin)
          rw [this]
          simp only [tx_get]
        obtain ⟨b, o, rfl, x0, x1, x2, x3⟩ := rd_cellW (HR.out.mod (HM0.out.trans hM.out) (fun _ _ => id)) hin
        have hcw := HCM.out xs[i] wr.drew (HM0.out.trans hM.out.drew)
        have hcz : decide (cmpI xs[i].1.1 tt = 0) = decide (xs[i].1.1 = tt) := by
          rw [decide_eq_decide]; exact cmpI_zero
        unfold wnV at hcw
        rw [← hq] at hcz
        clear hq
        generalize xs[i].1.1 = xt at *
        generalize xs[i].1.2.head.pred = xp at *
        generalize xs[i].2.1 = xs1 at *
        generalize xs[i].2.2 = xb1 at *
        generalize cmpI xt tt = cv at *
        have HCW := Lib.hid hcw
        have hcz2 : ((cv : Int) == 0) = Q := by rw [← hcz, Bool.eq_iff_iff]; simp
        clear hcw hcz HT HT0 HU
        go_wp2_with fail
        refine wp_region_ord (fun w' => (w'.cell? ⟨b, o + i * 4, none⟩ = some (.string xt) ∧ w'.cell? ⟨b, o + i * 4 + 1, none⟩ = some (.string xp) ∧ w'.cell? ⟨b, o + i * 4 + 2, none⟩ = some xs1 ∧ w'.cell? ⟨b, o + i * 4 + 3, none⟩ = some xb1) ∧ (w'.cell? ⟨w.heap.size, 0, none⟩ = some (.string tt) ∧ w'.cell? ⟨w.heap.size, 1, none⟩ = some (.string tp) ∧ w'.cell? ⟨w.heap.size, 2, none⟩ = some ts ∧ w'.cell? ⟨w.heap.size, 3, none⟩ = some tbv)) [(0, 0), (0, 1), (0, 2), (0, 3), (0, 4), (0, 5), (0, 6), (0, 7), (0, 8), (1, 9), (1, 10), (3, 11), (0, 12), (0, 13), (0, 14), (0, 15)] (by kernel_rfl) (by kernel_rfl) ?_
        go_wp2_with (first
          | (refine ord_pure rfl rfl rfl (fun K hK => ?_); go_big_quiet_op; refine hK _ ?_; clear hK K)
                                                                | (refine ord_skip rfl rfl ?_; simp only [Act.put, List.setIfInBounds_toArray, List.set_cons_zero, List.set_cons_succ])
                                                                | (refine ord_held rfl rfl rfl (⟨⟨x0, x1, x2, x3⟩, ⟨y0, y1, y2, y3⟩⟩) (fun K hK => ?_); apply Exists.intro; refine ⟨fun w' hs => ?_, hK _ ?_⟩; (revert hs; dsimp only; (try simp only [and_imp]); intros; go_simp; rfl); clear hK K)
                                                                | (refine ord_keep rfl rfl (⟨⟨x0, x1, x2, x3⟩, ⟨y0, y1, y2, y3⟩⟩) (fun K hK => ?_))
                                                                | (refine ord_drop rfl rfl (fun K hK => ?_))
                                                                | (refine ord_nil ?_))
        refine HCW.out.mono ?_
        rintro e w2 ⟨rfl, hM2⟩
        have HM2 := Lib.hid (hM.out.drew.trans hM2)
        clear hM2 x0 x1 x2 x3 y0 y1 y2 y3 HCW
        go_wp2_with (first
          | (refine ord_pure rfl rfl rfl (fun K hK => ?_); go_big_quiet_op; refine hK _ ?_; clear hK K)
                                                                | (refine ord_skip rfl rfl ?_; simp only [Act.put, List.setIfInBounds_toArray, List.set_cons_zero, List.set_cons_succ])
                                                                | (refine ord_held rfl rfl rfl (trivial) (fun K hK => ?_); apply Exists.intro; refine ⟨fun w' hs => ?_, hK _ ?_⟩; (revert hs; dsimp only; (try simp only [and_imp]); intros; go_simp; rfl); clear hK K)
                                                                | (refine ord_keep rfl rfl (trivial) (fun K hK => ?_))
                                                                | (refine ord_drop rfl rfl (fun K hK => ?_))
                                                                | (refine ord_nil ?_))
        exact bodyPost_ret (v := .tuple #[.int .i64 i, .bool Q]) (by simp [results, Tryz.results137, go_sem]) rfl ⟨rfl, HM0.out.trans HM2.out⟩
      · have hq : Q = false := HT0.out (by rw [tx_len]; exact hin)
        subst hq
        clear HT HT0 HU HQ
        go_wp2_with fail
        refine wp_region_ord (fun w' => True) [(0, 0), (0, 1), (0, 2), (0, 3), (0, 4), (0, 5), (0, 6), (0, 7), (0, 8), (1, 9), (1, 10), (3, 11), (0, 12), (0, 13), (0, 14), (0, 15)] (by kernel_rfl) (by kernel_rfl) ?_
        go_wp2_with (first
          | (refine ord_pure rfl rfl rfl (fun K hK => ?_); go_big_quiet_op; refine hK _ ?_; clear hK K)
                                                                | (refine ord_skip rfl rfl ?_; simp only [Act.put, List.setIfInBounds_toArray, List.set_cons_zero, List.set_cons_succ])
                                                                | (refine ord_held rfl rfl rfl (trivial) (fun K hK => ?_); apply Exists.intro; refine ⟨fun w' hs => ?_, hK _ ?_⟩; (revert hs; dsimp only; (try simp only [and_imp]); intros; go_simp; rfl); clear hK K)
                                                                | (refine ord_keep rfl rfl (trivial) (fun K hK => ?_))
                                                                | (refine ord_drop rfl rfl (fun K hK => ?_))
                                                                | (refine ord_nil ?_))
        exact bodyPost_ret (v := .tuple #[.int .i64 i, .bool false]) (by simp [results, Tryz.results137, go_sem]) rfl ⟨rfl, HM0.out.trans hM.out.drew⟩
end Go.Proofs.YteecbbnpgmceiaaGreatDoor
