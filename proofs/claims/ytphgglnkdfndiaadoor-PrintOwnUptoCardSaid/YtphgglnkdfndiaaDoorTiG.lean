/-
  A sorted set of rules beside their texts: its order, and where a text stands.
-/
import Derived.Test.YtphgglnkdfndiaaDoorTidyL
import Derived.Test.YtphgglnkdfndiaaDoorOrd
import Derived.Test.YtphgglnkdfndiaaDoorData
import Derived.Test.YtphgglnkdfndiaaDoorInsK
import Derived.Test.YtphgglnkdfndiaaDoorSame
import Derived.Sort.Walk0
import Derived.Laws.Cover1
import Derived.Test.YtphgglnkdfndiaaDoorNmG
import Derived.Lib.Overlaps
import Derived.Laws.Externs
namespace Go.Proofs.YtphgglnkdfndiaaDoor
open Go Go.RowKit Go.Mine
set_option linter.unusedVariables false
set_option maxHeartbeats 4000000
set_option maxRecDepth 100000

/-- a text beside its rule, as it lies: the rule's two slices -/
abbrev Wv := Wn × Value × Value
def wnC (x : Wv) : List Value := [.string x.1.1, .string x.1.2.head.pred, x.2.1, x.2.2]
def wnV (x : Wv) : Value := .agg #[.string x.1.1, .string x.1.2.head.pred, x.2.1, x.2.2]
def wnsC (xs : List Wv) : List Value := xs.flatMap wnC
@[simp] theorem wnC_length (x : Wv) : (wnC x).length = 4 := rfl
@[simp] theorem wnsC_length (xs : List Wv) : (wnsC xs).length = xs.length * 4 := flat_len wnC_length xs
theorem wnsC_append (l m : List Wv) : wnsC (l ++ m) = wnsC l ++ wnsC m := by simp [wnsC]
theorem rd_cellW {w : World} {a : Option Addr} {xs : List Wv} (h : Rd w a (wnsC xs)) {i : Nat} (hi : i < xs.length) :
    ∃ b o, a = some ⟨b, o, none⟩ ∧ w.cell? ⟨b, o + i * 4, none⟩ = some (.string xs[i].1.1) ∧ w.cell? ⟨b, o + i * 4 + 1, none⟩ = some (.string xs[i].1.2.head.pred) ∧ w.cell? ⟨b, o + i * 4 + 2, none⟩ = some xs[i].2.1 ∧ w.cell? ⟨b, o + i * 4 + 3, none⟩ = some xs[i].2.2 := by
  have h1 := flat_get (f := wnC) (j := 0) wnC_length (List.getElem?_eq_getElem hi) (by omega)
  have h2 := flat_get (f := wnC) (j := 1) wnC_length (List.getElem?_eq_getElem hi) (by omega)
  have h3 := flat_get (f := wnC) (j := 2) wnC_length (List.getElem?_eq_getElem hi) (by omega)
  have h4 := flat_get (f := wnC) (j := 3) wnC_length (List.getElem?_eq_getElem hi) (by omega)
  obtain ⟨b, o, e, q1⟩ := h (i * 4 + 0) _ (h1.trans rfl)
  obtain ⟨b', o', e', q2⟩ := h (i * 4 + 1) _ (h2.trans rfl)
  obtain ⟨b2, o2, e2, q3⟩ := h (i * 4 + 2) _ (h3.trans rfl)
  obtain ⟨b3, o3, e3, q4⟩ := h (i * 4 + 3) _ (h4.trans rfl)
  rw [e] at e' e2 e3
  cases e'; cases e2; cases e3
  exact ⟨b, o, e, q1, by rw [Nat.add_assoc]; exact q2, by rw [Nat.add_assoc]; exact q3, by rw [Nat.add_assoc]; exact q4⟩
theorem tiWn : TI Tryd.prog 76 59 4 80 := TI.mk' (z := .agg #[.string ByteArray.empty, .string ByteArray.empty, .slice none 0 0, .slice none 0 0]) (by kernel_rfl) (by kernel_rfl) rfl (by omega)

/-! the order -/
theorem lssT (x y : ByteArray) : Op.bytesLess x.toList y.toList = decide (tb x < tb y) := by
  have e1 : x.toList = tb x := ByteArray.toList_eq x
  have e2 : y.toList = tb y := ByteArray.toList_eq y
  rw [e1, e2, bytesLess_eq]
def cmpI (x y : ByteArray) : Int := if tb x < tb y then -1 else if tb y < tb x then 1 else 0
theorem cmpI_neg {x y : ByteArray} : cmpI x y < 0 ↔ tb x < tb y := by
  unfold cmpI
  split
  · rename_i h; exact ⟨fun _ => h, fun _ => by decide⟩
  · rename_i h
    refine ⟨fun h2 => ?_, fun h2 => absurd h2 h⟩
    split at h2 <;> omega
theorem cmpI_zero {x y : ByteArray} : cmpI x y = 0 ↔ x = y := by
  unfold cmpI
  constructor
  · intro h
    split at h
    · omega
    · rename_i h1
      split at h
      · omega
      · rename_i h2
        exact tb_inj (List.le_antisymm (List.not_lt.1 h2) (List.not_lt.1 h1))
  · rintro rfl
    rw [if_neg (List.lt_irrefl _), if_neg (List.lt_irrefl _)]
theorem nan_any (x : ByteArray) (w : World) : Calls Tryd.prog 40 #[.string x] w fun e w' => e = .returned (.bool false) ∧ w = w' := by
  go_enter Tryd.func40, Tryd.ntmps40
  go_wp2
  go_ret
  exact ⟨by simp, rfl⟩
theorem compare_any (x y : ByteArray) (w : World) : Calls Tryd.prog 20 #[.string x, .string y] w fun e w' => e = .returned (.int .i64 (cmpI x y)) ∧ w = w' := by
  have h1 := lssT x y
  unfold cmpI
  by_cases hl : tb x < tb y
  · rw [decide_eq_true hl] at h1
    rw [if_pos hl]
    clear hl
    go_enter Tryd.func20, Tryd.ntmps20
    go_wp2_with (first
      | (go_at_call 40; refine (nan_any _ _).mono ?_; rintro e w' ⟨rfl, rfl⟩))
    go_ret
    exact ⟨rfl, rfl⟩
  · rw [decide_eq_false hl] at h1
    rw [if_neg hl]
    by_cases hg : tb y < tb x
    · have h2 : (x.toList == y.toList) = false := beq_eq_false_iff_ne.2 (fun e => by
        rw [ByteArray.toList_eq, ByteArray.toList_eq] at e
        unfold tb at hg; rw [e] at hg; exact List.lt_irrefl _ hg)
      rw [if_pos hg]
      clear hl hg
      go_enter Tryd.func20, Tryd.ntmps20
      go_wp2_with (first
        | (go_at_call 40; refine (nan_any _ _).mono ?_; rintro e w' ⟨rfl, rfl⟩))
      go_ret
      exact ⟨rfl, rfl⟩
    · obtain rfl : x = y := tb_inj (List.le_antisymm (List.not_lt.1 hg) (List.not_lt.1 hl))
      have h2 : (x.toList == x.toList) = true := beq_self_eq_true _
      rw [if_neg hg]
      clear hl hg
      go_enter Tryd.func20, Tryd.ntmps20
      go_wp2_with (first
        | (go_at_call 40; refine (nan_any _ _).mono ?_; rintro e w' ⟨rfl, rfl⟩))
      go_ret
      exact ⟨rfl, rfl⟩
theorem order_any (x y : Wv) (w : World) : Calls Tryd.prog 19 #[wnV x, wnV y] w fun e w' => e = .returned (.int .i64 (cmpI x.1.1 y.1.1)) ∧ Mod (fun _ => False) w w' := by
  have HC := fun W => compare_any x.1.1 y.1.1 W
  unfold wnV
  obtain ⟨⟨xt, xr⟩, xs, xb⟩ := x
  obtain ⟨⟨yt, yr⟩, ys, yb⟩ := y
  simp only at HC ⊢
  generalize cmpI xt yt = c at *
  generalize xr.head.pred = xp at *
  generalize yr.head.pred = yp at *
  have d0 : ((w.alloc (.cells #[.string xt, .string xp, xs, xb] 59)).alloc (.cells #[.string yt, .string yp, ys, yb] 59)).cell? ⟨w.heap.size, 0, none⟩ = some (.string xt) := cell_old (cell_new rfl)
  have d1 : ((w.alloc (.cells #[.string xt, .string xp, xs, xb] 59)).alloc (.cells #[.string yt, .string yp, ys, yb] 59)).cell? ⟨w.heap.size + 1, 0, none⟩ = some (.string yt) := cell_new rfl (by simp)
  have hm : Mod (fun _ => False) w ((w.alloc (.cells #[.string xt, .string xp, xs, xb] 59)).alloc (.cells #[.string yt, .string yp, ys, yb] 59)) := ((Mod.refl _ w).alloc _).alloc _
  have HM := Lib.hid hm
  have HC := Lib.hid HC
  clear hm
  go_enter Tryd.func19, Tryd.ntmps19
  go_wp2_with fail
  refine (HC.out _).mono ?_
  rintro e w' ⟨rfl, rfl⟩
  go_wp2_with fail
  go_ret
  exact ⟨rfl, HM.out⟩
/-- the set: its order, its rules beside their texts -/
def fnO : Value := .func (.func 19) #[] #[]
def SetAt (w : World) (B : Nat) (a : Option Addr) (n c : Nat) : Prop := w.heap[B]? = some (.cells #[fnO, .slice a n c] 79 (0, 0))
theorem SetAt.trans' {w w' : World} {B : Nat} {a : Option Addr} {n c : Nat} (h : SetAt w B a n c) (m : Mod (fun _ => False) w w') : SetAt w' B a n c := m.at h id
theorem cmp_any (B : Nat) (a : Option Addr) (n c : Nat) (x y : Wv) (w : World) (hS : SetAt w B a n c) : Calls Tryd.prog 37 #[.pointer (some ⟨B, 0, none⟩), wnV x, wnV y] w fun e w' => e = .returned (.int .i64 (cmpI x.1.1 y.1.1)) ∧ Mod (fun _ => False) w w' := by
  have HC := Lib.hid (fun W => order_any x y W)
  unfold wnV at HC ⊢
  obtain ⟨⟨xt, xr⟩, xs, xb⟩ := x
  obtain ⟨⟨yt, yr⟩, ys, yb⟩ := y
  simp only at HC ⊢
  generalize cmpI xt yt = c at *
  generalize xr.head.pred = xp at *
  generalize yr.head.pred = yp at *
  have hm : Mod (fun _ => False) w ((w.alloc (.cells #[.string xt, .string xp, xs, xb] 59)).alloc (.cells #[.string yt, .string yp, ys, yb] 59)) := ((Mod.refl _ w).alloc _).alloc _
  have hb0 := heap_two1 w (.cells #[.string xt, .string xp, xs, xb] 59) (.cells #[.string yt, .string yp, ys, yb] 59)
  have hb1 := heap_two2 w (.cells #[.string xt, .string xp, xs, xb] 59) (.cells #[.string yt, .string yp, ys, yb] 59)
  have s0 := cell_at (j := 0) (hm.at hS id) rfl
  have HM := Lib.hid hm
  have HS := Lib.hid hS
  clear hm hS
  go_enter Tryd.func37, Tryd.ntmps37
  unfold fnO at s0
  have hn : ∀ w : World, (binOp .eql 61 (.func (.func 19) #[] #[]) .nilFunc).run Tryd.prog w = .ok (.bool false) w := fun w => by kernel_rfl
  go_wp2_with fail
  have x0 := cell_at (j := 0) hb0 rfl; have x1 := cell_at (j := 1) hb0 rfl; have x2 := cell_at (j := 2) hb0 rfl; have x3 := cell_at (j := 3) hb0 rfl
  have y0 := cell_at (j := 0) hb1 rfl; have y1 := cell_at (j := 1) hb1 rfl; have y2 := cell_at (j := 2) hb1 rfl; have y3 := cell_at (j := 3) hb1 rfl
  clear hb0 hb1
  refine wp_region_ord (fun w' => w'.cell? ⟨B, 0, none⟩ = some (.func (.func 19) #[] #[]) ∧ (w'.cell? ⟨w.heap.size, 0, none⟩ = some (.string xt) ∧ w'.cell? ⟨w.heap.size, 1, none⟩ = some (.string xp) ∧ w'.cell? ⟨w.heap.size, 2, none⟩ = some xs ∧ w'.cell? ⟨w.heap.size, 3, none⟩ = some xb) ∧ (w'.cell? ⟨w.heap.size + 1, 0, none⟩ = some (.string yt) ∧ w'.cell? ⟨w.heap.size + 1, 1, none⟩ = some (.string yp) ∧ w'.cell? ⟨w.heap.size + 1, 2, none⟩ = some ys ∧ w'.cell? ⟨w.heap.size + 1, 3, none⟩ = some yb)) [(0, 0), (0, 1), (0, 2), (1, 3), (1, 4), (1, 5), (3, 6), (0, 7)] (by kernel_rfl) (by kernel_rfl) ?_
  go_wp2_with (first
    | (refine ord_pure rfl rfl rfl (fun K hK => ?_); go_big_quiet_op; refine hK _ ?_; clear hK K)
                                                                | (refine ord_skip rfl rfl ?_; simp only [Act.put, List.setIfInBounds_toArray, List.set_cons_zero, List.set_cons_succ])
                                                                | (refine ord_held rfl rfl rfl (⟨s0, ⟨x0, x1, x2, x3⟩, ⟨y0, y1, y2, y3⟩⟩) (fun K hK => ?_); apply Exists.intro; refine ⟨fun w' hs => ?_, hK _ ?_⟩; (revert hs; dsimp only; (try simp only [and_imp]); intros; go_simp; rfl); clear hK K)
                                                                | (refine ord_keep rfl rfl (⟨s0, ⟨x0, x1, x2, x3⟩, ⟨y0, y1, y2, y3⟩⟩) (fun K hK => ?_))
                                                                | (refine ord_drop rfl rfl (fun K hK => ?_))
                                                                | (refine ord_nil ?_))
  refine (HC.out _).mono ?_
  rintro e w' ⟨rfl, hM2⟩
  have HM2 := Lib.hid (HM.out.drew.trans hM2)
  clear hM2 x0 x1 x2 x3 y0 y1 y2 y3 s0
  go_wp2_with (first
    | (refine ord_pure rfl rfl rfl (fun K hK => ?_); go_big_quiet_op; refine hK _ ?_; clear hK K)
                                                                | (refine ord_skip rfl rfl ?_; simp only [Act.put, List.setIfInBounds_toArray, List.set_cons_zero, List.set_cons_succ])
                                                                | (refine ord_held rfl rfl rfl (trivial) (fun K hK => ?_); apply Exists.intro; refine ⟨fun w' hs => ?_, hK _ ?_⟩; (revert hs; dsimp only; (try simp only [and_imp]); intros; go_simp; rfl); clear hK K)
                                                                | (refine ord_keep rfl rfl (trivial) (fun K hK => ?_))
                                                                | (refine ord_drop rfl rfl (fun K hK => ?_))
                                                                | (refine ord_nil ?_))
  go_ret
  exact ⟨rfl, HM2.out⟩
/-- the order, bound to the set -/
def cmpF (B : Nat) : Value := .func (.func 37) #[.pointer (some ⟨B, 0, none⟩)] #[]
def tx (xs : List Wv) : List Wn := xs.map (·.1)
@[simp] theorem tx_len (xs : List Wv) : (tx xs).length = xs.length := by simp [tx]
theorem tx_get (xs : List Wv) (i : Nat) (h : i < (tx xs).length) : (tx xs)[i] = (xs[i]'(by simpa using h)).1 := by simp [tx]
theorem search_any (B : Nat) (a0 : Option Addr) (n0 c0 : Nat) (xs : List Wv) (a : Option Addr) (c : Nat) (t : Wv) (w : World) (hS : SetAt w B a0 n0 c0) (hR : Rd w a (wnsC xs)) (hn : xs.length ≤ 2 ^ 40) (hs : SortT (tx xs)) :
    Calls Tryd.prog 61 #[.slice a xs.length c, wnV t, cmpF B] w fun e w' => e = .returned (.tuple #[.int .i64 (lbT (tx xs) t.1.1), .bool (hasT (tx xs) t.1.1)]) ∧ Mod (fun _ => False) w w' := by
  have HCM := Lib.hid (fun (x : Wv) (W : World) (m : Mod (fun _ => False) w W) => cmp_any B a0 n0 c0 x t W (hS.trans' m))
  have HR := Lib.hid hR
  have HU := Lib.hid (fun k (h1 : k ≤ (tx xs).length) => lbT_uniq (s := t.1.1) hs (k := k) h1)
  have HT := Lib.hid (hasT_iff (xs := tx xs) (s := t.1.1))
  have HT0 := Lib.hid (hasT_out (xs := tx xs) (s := t.1.1))
  have HTT := Lib.hid (show wnV t = .agg #[.string t.1.1, .string t.1.2.head.pred, t.2.1, t.2.2] from rfl)
  have HSO : Hid (∀ (k h : Nat) (hk : k < xs.length) (hx : h < xs.length), k < h → tb xs[k].1.1 < tb xs[h].1.1) := fun k h hk hx e => by
    have := sortT_get hs (i := k) (j := h) (by simpa using hk) (by simpa using hx) e
    simpa [tx] using this
  clear hS hR hs
  unfold wnV at HCM ⊢
  generalize t.1.1 = tt at *
  generalize t.1.2.head.pred = tp at *
  generalize t.2.1 = ts at *
  generalize t.2.2 = tbv at *
  have hm0 : Mod (fun _ => False) w (w.alloc (.cells #[.string tt, .string tp, ts, tbv] 59)) := (Mod.refl _ w).alloc _
  have HM0 := Lib.hid hm0
  have HB0 := Lib.hid (heap_alloc_new w (.cells #[.string tt, .string tp, ts, tbv] 59))
  clear hm0
  unfold cmpF
  generalize hN : lbT (tx xs) tt = L at *
  generalize hQ : hasT (tx xs) tt = Q at *
  have HN := Lib.hid hN; have HQ := Lib.hid hQ
  clear hN hQ
  go_enter Tryd.func61, Tryd.ntmps61
  go_wp2_with fail
  generalize w.alloc (.cells #[.string tt, .string tp, ts, tbv] 59) = w0 at *
  go_loopw [9, 10, 11] (fun iv jv hv wr => ∃ i j : Nat, iv = .int .i64 i ∧ jv = .int .i64 j ∧ i ≤ j ∧ j ≤ xs.length ∧ Hid (∀ k (hk : k < xs.length), k < i → tb xs[k].1.1 < tb tt) ∧ Hid (∀ k (hk : k < xs.length), j ≤ k → ¬ tb xs[k].1.1 < tb tt) ∧ Hid (Mod (fun _ => False) w0 wr)) (fun iv jv _ _ => (intOf jv).toNat - (intOf iv).toNat)
  case atStart => exact ⟨0, xs.length, rfl, rfl, Nat.zero_le _, Nat.le_refl _, Lib.hid (fun k _ h => absurd h (Nat.not_lt_zero _)), Lib.hid (fun k h1 h2 => absurd h1 (by omega)), Lib.hid (Mod.refl _ _)⟩
  case round =>
    obtain ⟨i, j, rfl, rfl, hij, hjn, hlo, hhi, hM⟩ := hrel
    have hb := hM.out.at HB0.out id
    have y0 := cell_at (j := 0) hb rfl; have y1 := cell_at (j := 1) hb rfl; have y2 := cell_at (j := 2) hb rfl; have y3 := cell_at (j := 3) hb rfl
    clear hb
    by_cases hlt : i < j
    · obtain ⟨h, hh⟩ : ∃ h, h = (i + j) / 2 := ⟨_, rfl⟩
      have h1 : i ≤ h := by omega
      have h2 : h < j := by omega
      have hx : h < xs.length := by omega
      obtain ⟨b, o, rfl, x0, x1, x2, x3⟩ := rd_cellW (HR.out.mod (HM0.out.trans hM.out) (fun _ _ => id)) hx
      have HC := Lib.hid (HCM.out xs[h])
      have HHH := Lib.hid hh
      clear hh
      go_wp2_with fail
      have eh : ((i : Int) + (j : Int)) / 2 = (h : Int) := by have := HHH.out; omega
      rw [eh]
      have hcw := HC.out wr.drew (HM0.out.trans hM.out.drew)
      have hc1 : tb xs[h].1.1 < tb tt → cmpI xs[h].1.1 tt = -1 := fun hl => by unfold cmpI; rw [if_pos hl]
      have hc2 : ¬ tb xs[h].1.1 < tb tt → ¬ (cmpI xs[h].1.1 tt < 0) := fun hl hc => hl (cmpI_neg.1 hc)
      have HL2 : Hid (∀ k (hk : k < xs.length), k < h + 1 → tb xs[h].1.1 < tb tt → tb xs[k].1.1 < tb tt) := fun k hk h1 hl => by
        rcases Nat.lt_or_ge k h with e | e
        · exact List.lt_trans (HSO.out k h hk hx e) hl
        · obtain rfl : k = h := by omega
          exact hl
      have HH2 : Hid (∀ k (hk : k < xs.length), h ≤ k → ¬ tb xs[h].1.1 < tb tt → ¬ tb xs[k].1.1 < tb tt) := fun k hk h1 hl hl2 => by
        rcases Nat.eq_or_lt_of_le h1 with e | e
        · subst e; exact hl hl2
        · exact hl (List.lt_trans (HSO.out h k hx hk e) hl2)
      clear eh
      unfold wnV at hcw
      generalize xs[h].1.1 = xt at *
      generalize xs[h].1.2.head.pred = xp at *
      generalize xs[h].2.1 = xs1 at *
      generalize xs[h].2.2 = xb1 at *
      have HCW := Lib.hid hcw
      clear hcw
      generalize cmpI xt tt = cv at *
      by_cases hl : tb xt < tb tt
      · have hcv := hc1 hl
        subst hcv
        have HLL := Lib.hid hl
        clear hc1 hc2 hl
        refine wp_region_ord (fun w' => (w'.cell? ⟨b, o + h * 4, none⟩ = some (.string xt) ∧ w'.cell? ⟨b, o + h * 4 + 1, none⟩ = some (.string xp) ∧ w'.cell? ⟨b, o + h * 4 + 2, none⟩ = some xs1 ∧ w'.cell? ⟨b, o + h * 4 + 3, none⟩ = some xb1) ∧ (w'.cell? ⟨w.heap.size, 0, none⟩ = some (.string tt) ∧ w'.cell? ⟨w.heap.size, 1, none⟩ = some (.string tp) ∧ w'.cell? ⟨w.heap.size, 2, none⟩ = some ts ∧ w'.cell? ⟨w.heap.size, 3, none⟩ = some tbv)) [(0, 0), (0, 1), (0, 2), (0, 3), (1, 4), (1, 5), (3, 6), (0, 7)] (by kernel_rfl) (by kernel_rfl) ?_
        go_wp2_with (first
          | (refine ord_pure rfl rfl rfl (fun K hK => ?_); go_big_quiet_op; refine hK _ ?_; clear hK K)
                                                                | (refine ord_skip rfl rfl ?_; simp only [Act.put, List.setIfInBounds_toArray, List.set_cons_zero, List.set_cons_succ])
                                                                | (refine ord_held rfl rfl rfl (⟨⟨x0, x1, x2, x3⟩, ⟨y0, y1, y2, y3⟩⟩) (fun K hK => ?_); apply Exists.intro; refine ⟨fun w' hs => ?_, hK _ ?_⟩; (revert hs; dsimp only; (try simp only [and_imp]); intros; go_simp; rfl); clear hK K)
                                                                | (refine ord_keep rfl rfl (⟨⟨x0, x1, x2, x3⟩, ⟨y0, y1, y2, y3⟩⟩) (fun K hK => ?_))
                                                                | (refine ord_drop rfl rfl (fun K hK => ?_))
                                                                | (refine ord_nil ?_))
        refine HCW.out.mono ?_
        rintro e w2 ⟨rfl, hM2⟩
        have HM2 := Lib.hid (hM.out.drew.trans hM2)
        clear hM2 x0 x1 x2 x3 y0 y1 y2 y3 HCW
        go_wp2_with (first
          | (refine ord_pure rfl rfl rfl (fun K hK => ?_); go_big_quiet_op; refine hK _ ?_; clear hK K)
                                                                | (refine ord_skip rfl rfl ?_; simp only [Act.put, List.setIfInBounds_toArray, List.set_cons_zero, List.set_cons_succ])
                                                                | (refine ord_held rfl rfl rfl (trivial) (fun K hK => ?_); apply Exists.intro; refine ⟨fun w' hs => ?_, hK _ ?_⟩; (revert hs; dsimp only; (try simp only [and_imp]); intros; go_simp; rfl); clear hK K)
                                                                | (refine ord_keep rfl rfl (trivial) (fun K hK => ?_))
                                                                | (refine ord_drop rfl rfl (fun K hK => ?_))
                                                                | (refine ord_nil ?_))
        go_roundw
        case rel => exact ⟨h + 1, j, by go_num, rfl, by omega, hjn, Lib.hid (fun k hk e => HL2.out k hk e HLL.out), hhi, HM2⟩
        case measure => simp [intOf]; omega
      · have hcv := hc2 hl
        have HLL := Lib.hid hl
        clear hc1 hc2 hl
        refine wp_region_ord (fun w' => (w'.cell? ⟨b, o + h * 4, none⟩ = some (.string xt) ∧ w'.cell? ⟨b, o + h * 4 + 1, none⟩ = some (.string xp) ∧ w'.cell? ⟨b, o + h * 4 + 2, none⟩ = some xs1 ∧ w'.cell? ⟨b, o + h * 4 + 3, none⟩ = some xb1) ∧ (w'.cell? ⟨w.heap.size, 0, none⟩ = some (.string tt) ∧ w'.cell? ⟨w.heap.size, 1, none⟩ = some (.string tp) ∧ w'.cell? ⟨w.heap.size, 2, none⟩ = some ts ∧ w'.cell? ⟨w.heap.size, 3, none⟩ = some tbv)) [(0, 0), (0, 1), (0, 2), (0, 3), (1, 4), (1, 5), (3, 6), (0, 7)] (by kernel_rfl) (by kernel_rfl) ?_
        go_wp2_with (first
          | (refine ord_pure rfl rfl rfl (fun K hK => ?_); go_big_quiet_op; refine hK _ ?_; clear hK K)
                                                                | (refine ord_skip rfl rfl ?_; simp only [Act.put, List.setIfInBounds_toArray, List.set_cons_zero, List.set_cons_succ])
                                                                | (refine ord_held rfl rfl rfl (⟨⟨x0, x1, x2, x3⟩, ⟨y0, y1, y2, y3⟩⟩) (fun K hK => ?_); apply Exists.intro; refine ⟨fun w' hs => ?_, hK _ ?_⟩; (revert hs; dsimp only; (try simp only [and_imp]); intros; go_simp; rfl); clear hK K)
                                                                | (refine ord_keep rfl rfl (⟨⟨x0, x1, x2, x3⟩, ⟨y0, y1, y2, y3⟩⟩) (fun K hK => ?_))
                                                                | (refine ord_drop rfl rfl (fun K hK => ?_))
                                                                | (refine ord_nil ?_))
        refine HCW.out.mono ?_
        rintro e w2 ⟨rfl, hM2⟩
        have HM2 := Lib.hid (hM.out.drew.trans hM2)
        clear hM2 x0 x1 x2 x3 y0 y1 y2 y3 HCW
        go_wp2_with (first
          | (refine ord_pure rfl rfl rfl (fun K hK => ?_); go_big_quiet_op; refine hK _ ?_; clear hK K)
                                                                | (refine ord_skip rfl rfl ?_; simp only [Act.put, List.setIfInBounds_toArray, List.set_cons_zero, List.set_cons_succ])
                                                                | (refine ord_held rfl rfl rfl (trivial) (fun K hK => ?_); apply Exists.intro; refine ⟨fun w' hs => ?_, hK _ ?_⟩; (revert hs; dsimp only; (try simp only [and_imp]); intros; go_simp; rfl); clear hK K)
                                                                | (refine ord_keep rfl rfl (trivial) (fun K hK => ?_))
                                                                | (refine ord_drop rfl rfl (fun K hK => ?_))
                                                                | (refine ord_nil ?_))
        go_roundw
        case rel => exact ⟨i, h, rfl, rfl, h1, by omega, hlo, Lib.hid (fun k hk e => HH2.out k hk e HLL.out), HM2⟩
        case measure => simp [intOf]; omega
    · obtain rfl : i = j := by omega
      have hL : i = L := by
        refine HU.out i (by simpa using hjn) (fun k hk e => ?_) (fun k hk e => ?_)
        · rw [tx_get]; exact hlo.out k (by simpa using hk) e
        · rw [tx_get]; exact hhi.out k (by simpa using hk) e
      subst hL
      by_cases hin : i < xs.length
      · have hq : Q = decide (xs[i].1.1 = tt) := by
          have := HT.out (by rw [tx_len]; exact hin)
          rw [this]
          simp only [tx_get]
        obtain ⟨b, o, rfl, x0, x1, x2, x3⟩ := rd_cellW (HR.out.mod (HM0.out.trans hM.out) (fun _ _ => id)) hin
        have hcw := HCM.out xs[i] wr.drew (HM0.out.trans hM.out.drew)
        have hcz : decide (cmpI xs[i].1.1 tt = 0) = decide (xs[i].1.1 = tt) := by
          rw [decide_eq_decide]; exact cmpI_zero
        unfold wnV at hcw
        rw [← hq] at hcz
        clear hq
        generalize xs[i].1.1 = xt at *
        generalize xs[i].1.2.head.pred = xp at *
        generalize xs[i].2.1 = xs1 at *
        generalize xs[i].2.2 = xb1 at *
        generalize cmpI xt tt = cv at *
        have HCW := Lib.hid hcw
        have hcz2 : ((cv : Int) == 0) = Q := by rw [← hcz, Bool.eq_iff_iff]; simp
        clear hcw hcz HT HT0 HU
        go_wp2_with fail
        refine wp_region_ord (fun w' => (w'.cell? ⟨b, o + i * 4, none⟩ = some (.string xt) ∧ w'.cell? ⟨b, o + i * 4 + 1, none⟩ = some (.string xp) ∧ w'.cell? ⟨b, o + i * 4 + 2, none⟩ = some xs1 ∧ w'.cell? ⟨b, o + i * 4 + 3, none⟩ = some xb1) ∧ (w'.cell? ⟨w.heap.size, 0, none⟩ = some (.string tt) ∧ w'.cell? ⟨w.heap.size, 1, none⟩ = some (.string tp) ∧ w'.cell? ⟨w.heap.size, 2, none⟩ = some ts ∧ w'.cell? ⟨w.heap.size, 3, none⟩ = some tbv)) [(0, 0), (0, 1), (0, 2), (0, 3), (0, 4), (0, 5), (0, 6), (0, 7), (0, 8), (1, 9), (1, 10), (3, 11), (0, 12), (0, 13), (0, 14), (0, 15)] (by kernel_rfl) (by kernel_rfl) ?_
        go_wp2_with (first
          | (refine ord_pure rfl rfl rfl (fun K hK => ?_); go_big_quiet_op; refine hK _ ?_; clear hK K)
                                                                | (refine ord_skip rfl rfl ?_; simp only [Act.put, List.setIfInBounds_toArray, List.set_cons_zero, List.set_cons_succ])
                                                                | (refine ord_held rfl rfl rfl (⟨⟨x0, x1, x2, x3⟩, ⟨y0, y1, y2, y3⟩⟩) (fun K hK => ?_); apply Exists.intro; refine ⟨fun w' hs => ?_, hK _ ?_⟩; (revert hs; dsimp only; (try simp only [and_imp]); intros; go_simp; rfl); clear hK K)
                                                                | (refine ord_keep rfl rfl (⟨⟨x0, x1, x2, x3⟩, ⟨y0, y1, y2, y3⟩⟩) (fun K hK => ?_))
                                                                | (refine ord_drop rfl rfl (fun K hK => ?_))
                                                                | (refine ord_nil ?_))
        refine HCW.out.mono ?_
        rintro e w2 ⟨rfl, hM2⟩
        have HM2 := Lib.hid (hM.out.drew.trans hM2)
        clear hM2 x0 x1 x2 x3 y0 y1 y2 y3 HCW
        go_wp2_with (first
          | (refine ord_pure rfl rfl rfl (fun K hK => ?_); go_big_quiet_op; refine hK _ ?_; clear hK K)
                                                                | (refine ord_skip rfl rfl ?_; simp only [Act.put, List.setIfInBounds_toArray, List.set_cons_zero, List.set_cons_succ])
                                                                | (refine ord_held rfl rfl rfl (trivial) (fun K hK => ?_); apply Exists.intro; refine ⟨fun w' hs => ?_, hK _ ?_⟩; (revert hs; dsimp only; (try simp only [and_imp]); intros; go_simp; rfl); clear hK K)
                                                                | (refine ord_keep rfl rfl (trivial) (fun K hK => ?_))
                                                                | (refine ord_drop rfl rfl (fun K hK => ?_))
                                                                | (refine ord_nil ?_))
        exact bodyPost_ret (v := .tuple #[.int .i64 i, .bool Q]) (by simp [results, Tryd.results61, go_sem]) rfl ⟨rfl, HM0.out.trans HM2.out⟩
      · have hq : Q = false := HT0.out (by rw [tx_len]; exact hin)
        subst hq
        clear HT HT0 HU HQ
        go_wp2_with fail
        refine wp_region_ord (fun w' => True) [(0, 0), (0, 1), (0, 2), (0, 3), (0, 4), (0, 5), (0, 6), (0, 7), (0, 8), (1, 9), (1, 10), (3, 11), (0, 12), (0, 13), (0, 14), (0, 15)] (by kernel_rfl) (by kernel_rfl) ?_
        go_wp2_with (first
          | (refine ord_pure rfl rfl rfl (fun K hK => ?_); go_big_quiet_op; refine hK _ ?_; clear hK K)
                                                                | (refine ord_skip rfl rfl ?_; simp only [Act.put, List.setIfInBounds_toArray, List.set_cons_zero, List.set_cons_succ])
                                                                | (refine ord_held rfl rfl rfl (trivial) (fun K hK => ?_); apply Exists.intro; refine ⟨fun w' hs => ?_, hK _ ?_⟩; (revert hs; dsimp only; (try simp only [and_imp]); intros; go_simp; rfl); clear hK K)
                                                                | (refine ord_keep rfl rfl (trivial) (fun K hK => ?_))
                                                                | (refine ord_drop rfl rfl (fun K hK => ?_))
                                                                | (refine ord_nil ?_))
        exact bodyPost_ret (v := .tuple #[.int .i64 i, .bool false]) (by simp [results, Tryd.results61, go_sem]) rfl ⟨rfl, HM0.out.trans hM.out.drew⟩
end Go.Proofs.YtphgglnkdfndiaaDoor
/-
  A sorted set of rules beside their texts: where a text stands; a new set; one put in.
-/
namespace Go.Proofs.YtphgglnkdfndiaaDoor
open Go Go.RowKit Go.Mine
set_option linter.unusedVariables false
set_option maxHeartbeats 4000000
set_option maxRecDepth 100000

theorem find_any (B : Nat) (xs : List Wv) (a : Option Addr) (c : Nat) (t : Wv) (w : World) (hS : SetAt w B a xs.length c) (hR : Rd w a (wnsC xs)) (hn : xs.length ≤ 2 ^ 40) (hs : SortT (tx xs)) :
    Calls Tryd.prog 41 #[.pointer (some ⟨B, 0, none⟩), wnV t] w fun e w' => e = .returned (.tuple #[.int .i64 (lbT (tx xs) t.1.1), .bool (hasT (tx xs) t.1.1)]) ∧ Mod (fun _ => False) w w' := by
  have HC := Lib.hid (fun (W : World) (m : Mod (fun _ => False) w W) => search_any B a xs.length c xs a c t W (hS.trans' m) (hR.mod m (fun _ _ => id)) hn hs)
  unfold wnV cmpF at HC
  unfold wnV
  generalize t.1.1 = tt at *
  generalize t.1.2.head.pred = tp at *
  generalize t.2.1 = ts at *
  generalize t.2.2 = tbv at *
  generalize lbT (tx xs) tt = L at *
  generalize hasT (tx xs) tt = Q at *
  have hm : Mod (fun _ => False) w (w.alloc (.cells #[.string tt, .string tp, ts, tbv] 59)) := (Mod.refl _ w).alloc _
  have hb0 := heap_alloc_new w (.cells #[.string tt, .string tp, ts, tbv] 59)
  have x0 := cell_at (j := 0) hb0 rfl; have x1 := cell_at (j := 1) hb0 rfl; have x2 := cell_at (j := 2) hb0 rfl; have x3 := cell_at (j := 3) hb0 rfl
  have s1 := cell_at (j := 1) (hm.at hS id) rfl
  have HM := Lib.hid hm
  clear hm hS hR hs hb0
  go_enter Tryd.func41, Tryd.ntmps41
  go_wp2_with fail
  refine wp_region_ord (fun w' => w'.cell? ⟨B, 1, none⟩ = some (.slice a xs.length c) ∧ (w'.cell? ⟨w.heap.size, 0, none⟩ = some (.string tt) ∧ w'.cell? ⟨w.heap.size, 1, none⟩ = some (.string tp) ∧ w'.cell? ⟨w.heap.size, 2, none⟩ = some ts ∧ w'.cell? ⟨w.heap.size, 3, none⟩ = some tbv)) [(0, 0), (0, 1), (0, 2), (1, 3), (1, 4), (0, 5), (0, 6), (3, 7), (0, 8), (0, 9), (0, 10), (0, 11)] (by kernel_rfl) (by kernel_rfl) ?_
  go_wp2_with (first
    | (refine ord_pure rfl rfl rfl (fun K hK => ?_); go_big_quiet_op; refine hK _ ?_; clear hK K)
                                                                | (refine ord_skip rfl rfl ?_; simp only [Act.put, List.setIfInBounds_toArray, List.set_cons_zero, List.set_cons_succ])
                                                                | (refine ord_held rfl rfl rfl (⟨s1, x0, x1, x2, x3⟩) (fun K hK => ?_); apply Exists.intro; refine ⟨fun w' hs => ?_, hK _ ?_⟩; (revert hs; dsimp only; (try simp only [and_imp]); intros; go_simp; rfl); clear hK K)
                                                                | (refine ord_keep rfl rfl (⟨s1, x0, x1, x2, x3⟩) (fun K hK => ?_))
                                                                | (refine ord_drop rfl rfl (fun K hK => ?_))
                                                                | (refine ord_nil ?_))
  refine (HC.out _ HM.out.drew).mono ?_
  rintro e w' ⟨rfl, hM2⟩
  have HM2 := Lib.hid (HM.out.drew.trans hM2)
  clear hM2 x0 x1 x2 x3 s1
  go_wp2_with (first
    | (refine ord_pure rfl rfl rfl (fun K hK => ?_); go_big_quiet_op; refine hK _ ?_; clear hK K)
                                                                | (refine ord_skip rfl rfl ?_; simp only [Act.put, List.setIfInBounds_toArray, List.set_cons_zero, List.set_cons_succ])
                                                                | (refine ord_held rfl rfl rfl (trivial) (fun K hK => ?_); apply Exists.intro; refine ⟨fun w' hs => ?_, hK _ ?_⟩; (revert hs; dsimp only; (try simp only [and_imp]); intros; go_simp; rfl); clear hK K)
                                                                | (refine ord_keep rfl rfl (trivial) (fun K hK => ?_))
                                                                | (refine ord_drop rfl rfl (fun K hK => ?_))
                                                                | (refine ord_nil ?_))
  exact bodyPost_ret (results_tmp2 rfl _ _ _) rfl ⟨rfl, HM2.out⟩
/-! a new set -/
/-- what stands in a row of rules beside their texts is of one cell each -/
theorem wnsC_one (xs : List Wv) (h : ∀ x ∈ xs, x.2.1.oneCell' = true ∧ x.2.2.oneCell' = true) : ∀ u ∈ wnsC xs, u.oneCell' = true := by
  intro u hu
  unfold wnsC at hu
  obtain ⟨x, hx, hu⟩ := List.mem_flatMap.1 hu
  have := h x hx
  unfold wnC at hu
  simp only [List.mem_cons, List.not_mem_nil, or_false] at hu
  rcases hu with rfl | rfl | rfl | rfl
  · rfl
  · rfl
  · exact this.1
  · exact this.2
theorem cloneW_any (xs : List Wv) (a : Option Addr) (c : Nat) (w : World) (ht : Rd w a (wnsC xs)) (hn : xs.length < 2 ^ 40) (h1 : ∀ x ∈ xs, x.2.1.oneCell' = true ∧ x.2.2.oneCell' = true) :
    Calls Tryd.prog 35 #[.slice a xs.length c] w fun e w' => ∃ a c, e = .returned (.slice a xs.length c) ∧ Mine.Own w' 59 4 a xs.length c (wnsC xs) ∧ Mod (fun _ => False) w w' ∧ (∀ b, blk a = some b → w.heap.size ≤ b) := by
  have q22 : ∀ (w : World) (a : Option Addr) (n c n' c' : Nat), (binOp .eql 76 (.slice a n c) (.slice none n' c')).run Tryd.prog w = .ok (.bool a.isNone) w := fun w a n c n' c' => Lib.run_eql_slice_nil w _ _ a n c n' c' Tryd.underlying76
  cases a with
  | none =>
    have hts : xs = [] := by
      cases xs with
      | nil => rfl
      | cons t ts => obtain ⟨b, o, e, _⟩ := ht 0 _ rfl; cases e
    subst hts
    clear ht
    go_enter Tryd.func35, Tryd.ntmps35
    go_wp2_with fail
    go_ret
    exact ⟨none, 0, rfl, Mine.Own.nil _ _ _, Mod.refl _ _, by simp⟩
  | some ad =>
    have HR := Lib.hid ht; clear ht
    have H1 := Lib.hid h1; clear h1
    go_enter Tryd.func35, Tryd.ntmps35
    go_wp2_with (at_builtin; refine wpL_append rfl (.tmp 5) (.tmp 6) 76 76 rfl tiWn rfl (own_madeg w 59 4 w.heap.size rfl) rfl (Src.ofRd tiWn.ht xs.length c (HR.out.mod ((Mod.refl (fun _ => False) w).alloc _) (fun _ _ => id)) (wnsC_length xs) (wnsC_one xs H1.out)) (by omega) (by unfold maxLen; omega) ?_; intro a2 c2 w2 hO2 hG2 _
                 simp only [Nat.zero_add, List.nil_append] at hO2
                 simp only [Nat.zero_add]
                 have HO2 := Lib.hid hO2; have HG2 := Lib.hid hG2; clear hO2 hG2)
    go_ret
    refine ⟨a2, c2, rfl, HO2.out, grow_mod0 ((Mod.refl (fun _ => False) w).alloc _) HG2.out (Nat.le_refl _), fun b hb => ?_⟩
    rcases HG2.out.pos with e | ⟨g, e, hg⟩
    · rw [e] at hb; simp at hb; omega
    · rw [e] at hb; cases hb; simp at hg; omega
theorem cloneN_any (w : World) : Calls Tryd.prog 35 #[.slice none 0 0] w fun e w' => e = .returned (.slice none 0 0) ∧ w = w' := by
  have q22 : ∀ (w : World) (a : Option Addr) (n c n' c' : Nat), (binOp .eql 76 (.slice a n c) (.slice none n' c')).run Tryd.prog w = .ok (.bool a.isNone) w := fun w a n c n' c' => Lib.run_eql_slice_nil w _ _ a n c n' c' Tryd.underlying76
  go_enter Tryd.func35, Tryd.ntmps35
  go_wp2_with fail
  go_ret
  exact ⟨rfl, rfl⟩
theorem insSort0_any (cb : Value) (w : World) : Calls Tryd.prog 72 #[.slice none 0 0, .int .i64 0, .int .i64 0, cb] w fun e w' => (∃ v, e = .returned v) ∧ w = w' := by
  go_enter Tryd.func72, Tryd.ntmps72
  go_wp2_with fail
  go_loopw [8, 9] (fun iv _ wr => iv = .int .i64 1 ∧ Hid (w = wr)) (fun _ _ _ => 0)
  case atStart => exact ⟨rfl, Lib.hid rfl⟩
  case round =>
    obtain ⟨rfl, hw⟩ := hrel
    go_wp2_with fail
    go_end0
    exact ⟨⟨_, rfl⟩, hw.out⟩
theorem stable0_any (cb : Value) (w : World) : Calls Tryd.prog 60 #[.slice none 0 0, .int .i64 0, cb] w fun e w' => (∃ v, e = .returned v) ∧ w = w' := by
  go_enter Tryd.func60, Tryd.ntmps60
  go_wp2_with fail
  go_loopw [7, 8] (fun a b wr => a = .int .i64 0 ∧ b = .int .i64 20 ∧ Hid (w = wr)) (fun _ _ _ => 0)
  case atStart => exact ⟨rfl, rfl, Lib.hid rfl⟩
  case round =>
    obtain ⟨rfl, rfl, hw⟩ := hrel
    go_wp2_with fail
    refine (insSort0_any cb _).mono ?_
    rintro e w' ⟨⟨v, rfl⟩, hw2⟩
    have HW : Hid (w = w') := Lib.hid (hw.out.trans hw2)
    clear hw2 hw
    go_wp2_with fail
    go_loopw [6, 7, 8, 9] (fun a _ _ _ wr => a = .int .i64 20 ∧ Hid (w = wr)) (fun _ _ _ _ _ => 0)
    case atStart => exact ⟨rfl, HW⟩
    case round =>
      obtain ⟨rfl, hw⟩ := hrel
      go_wp2_with fail
      go_end0
      exact ⟨⟨_, rfl⟩, hw.out⟩
theorem sort0_any (cb : Value) (w : World) : Calls Tryd.prog 36 #[.slice none 0 0, cb] w fun e w' => (∃ v, e = .returned v) ∧ w = w' := by
  go_enter Tryd.func36, Tryd.ntmps36
  go_wp2_with fail
  refine (stable0_any cb _).mono ?_
  rintro e w' ⟨⟨v, rfl⟩, rfl⟩
  go_wp2_with fail
  go_end0
  exact ⟨⟨_, rfl⟩, rfl⟩
theorem compact0_any (cb : Value) (w : World) : Calls Tryd.prog 38 #[.slice none 0 0, cb] w fun e w' => e = .returned (.slice none 0 0) ∧ w = w' := by
  go_enter Tryd.func38, Tryd.ntmps38
  go_wp2
  go_ret
  exact ⟨rfl, rfl⟩
theorem newSet_any (w : World) : Calls Tryd.prog 18 #[fnO, .slice none 0 0] w fun e w' => ∃ B, e = .returned (.pointer (some ⟨B, 0, none⟩)) ∧ SetAt w' B none 0 0 ∧ Mod (fun _ => False) w w' ∧ w.heap.size ≤ B := by
  unfold fnO
  have HS := Lib.hid sort0_any; have HC := Lib.hid compact0_any
  have hb := heap_alloc_new w (.cells #[.func (.func 19) #[] #[], .slice none 0 0] 79)
  have hm : Mod (fun _ => False) w (w.alloc (.cells #[.func (.func 19) #[] #[], .slice none 0 0] 79)) := (Mod.refl _ w).alloc _
  have s1 := cell_at (j := 1) hb rfl
  have f1 := frozen_at (j := 1) hb
  have HB := Lib.hid hb; have HM := Lib.hid hm
  clear hb hm
  go_enter Tryd.func18, Tryd.ntmps18
  go_wp2_with (first
    | (go_at_call 35; refine (cloneN_any _).mono ?_; rintro e w' ⟨rfl, rfl⟩)
    | (go_at_call 36; refine (HS.out _ _).mono ?_; rintro e w' ⟨⟨v, rfl⟩, rfl⟩)
    | (go_at_call 38; refine (HC.out _ _).mono ?_; rintro e w' ⟨rfl, rfl⟩))
  go_ret
  exact ⟨_, rfl, HB.out, HM.out, Nat.le_refl _⟩
end Go.Proofs.YtphgglnkdfndiaaDoor
