/-
  The document's four ways to lay a column: walked.
-/
import Derived.Test.YtjoiaejbahdjkaaGreatColA
import Derived.Test.YtjoiaejbahdjkaaGreatPut
import Derived.Test.YtjoiaejbahdjkaaGreatOrdA
import Derived.Laws.OwnMore
namespace Go.Proofs.YtjoiaejbahdjkaaGreat
open Go Go.RowKit Go.Mine
set_option linter.unusedVariables false
set_option maxHeartbeats 4000000
set_option maxRecDepth 100000
structure BOwn (w0 w : World) (a : Option Addr) (c : Nat) (bs : List UInt8) : Prop where
 own : Mine.Own w 5 1 a bs.length c (bts bs)
 fr : ∀ b, blk a = some b → w0.heap.size ≤ b
 md : Mod (fun _ => False) w0 w
theorem BOwn.nil (w : World) : BOwn w w none 0 [] := ⟨Mine.Own.nil _ _ _, (fun b hb => by cases hb), Mod.refl _ _⟩
theorem BOwn.mod0 {w0 w w' : World} {a : Option Addr} {c : Nat} {bs : List UInt8} (h : BOwn w0 w a c bs) (m : Mod (fun _ => False) w w') : BOwn w0 w' a c bs := ⟨h.own.mod m (fun _ _ => id), h.fr, h.md.trans m⟩
theorem BOwn.app {w0 w w3 : World} {a a3 : Option Addr} {c c3 : Nat} {bs ys : List UInt8} {us : List Value} {n : Nat} (h : BOwn w0 w a c bs) (hG : Grow w a w3 a3) (hO : Mine.Own w3 5 1 a3 n c3 us) (hu : us = bts bs ++ bts ys) (hn : n = bs.length + ys.length) : BOwn w0 w3 a3 c3 (bs ++ ys) := by
 subst hu
 refine ⟨?_, fun b hb => ?_, h.md.step hG.mod (fun b hb e => by have := h.fr b e; omega)⟩
 ·rw [bts_append, List.length_append, ← hn]; exact hO
 ·rcases hG.pos with e | ⟨g, e, hg⟩
  ·rw [e] at hb; exact h.fr b hb
  ·have := h.md.size
   rw [e] at hb
   have : g = b := by simpa [blk] using hb
   omega
def BPost (w : World) (bs : List UInt8) (e : Ending) (w' : World) : Prop := ∃ a c, e = .returned (.slice a bs.length c) ∧ BOwn w w' a c bs
def u32s (c : List Nat) : List Value := c.map fun n => .int .u32 (n : Nat)
@[simp] theorem u32s_length (c : List Nat) : (u32s c).length = c.length := by simp [u32s]
theorem u32_cell {w : World} {a : Option Addr} {c : List Nat} (h : Rd w a (u32s c)) {i : Nat} (hi : i < c.length) : ∃ b o, a = some ⟨b, o, none⟩ ∧ w.cell? ⟨b, o + i, none⟩ = some (.int .u32 (c[i] : Nat)) := by
 obtain ⟨b, o, e, hc⟩ := h i (.int .u32 (c[i] : Nat)) (by unfold u32s; rw [List.getElem?_map, List.getElem?_eq_getElem hi]; rfl)
 exact ⟨b, o, e, hc⟩
theorem flat10 : ∀ ns : List Nat, (∀ n ∈ ns, n < 2 ^ 64) → (ns.flatMap lebl).length ≤ 10 * ns.length
 | [], _ => by simp
 | n :: ns, h => by
   have h1 := lebl_len64 n (h n (by simp))
   have h2 := flat10 ns (fun m hm => h m (by simp [hm]))
   simp only [List.flatMap_cons, List.length_append, List.length_cons]; omega
theorem plainR_any (a : Option Addr) (d : Nat) (c : List Nat) (w : World) (hr : Rd w a (u32s c)) (hu : U32 c) (hn : c.length < 2 ^ 32) :
 Calls Tryz.prog 158 #[.slice a c.length d] w (BPost w (layP c)) := by
 have HR := Hi hr; have HU := Hi hu
 clear hr hu
 go_enter Tryz.func158, Tryz.ntmps158
 go_wp2_with fail
 go_loopw [3, 4] (fun bv iv wr => ∃ (k : Nat) (a' : Option Addr) (c' : Nat) (bs : List UInt8), iv = .int .i64 k ∧ k ≤ c.length ∧ bv = .slice a' bs.length c' ∧ Hid (bs = layP (c.take k)) ∧ bs.length ≤ 10 * k ∧ Hid (BOwn w wr a' c' bs)) (fun _ iv _ => c.length - (intOf iv).toNat)
 case atStart => exact ⟨0, none, 0, [], rfl, by omega, rfl, Hi rfl, by simp, Hi (BOwn.nil w)⟩
 case round =>
  obtain ⟨k, a', c', bs, rfl, hk, rfl, hB, hbl, hO⟩ := hrel
  by_cases hlt : k < c.length
  ·obtain ⟨b, o, rfl, x0⟩ := u32_cell (HR.out.mod hO.out.md (fun _ _ => id)) hlt
   have hx := HU.out _ (List.getElem_mem hlt)
   have htk : c.take (k + 1) = c.take k ++ [c[k]] := List.take_succ_eq_append_getElem hlt
   have HTK : Hid (layP (c.take (k + 1)) = layP (c.take k) ++ lebl c[k]) := Hi (by unfold layP; rw [htk, List.flatMap_append, List.flatMap_singleton])
   have hl10 := lebl_len64 c[k] (by omega)
   clear htk
   generalize c[k] = x at *
   go_wp2_with (first
    |(go_at_call 88; refine (put_any x _ (by omega)).mono ?_; rintro e w2 ⟨g2, c2, rfl, hO2, hg2, hM2⟩; have HO2 := Hi hO2; have HM2 := Hi hM2; clear hO2 hM2)
    |(at_builtin; refine wpL_append rfl (.tmp 11) (.tmp 17) 23 23 rfl ti24 rfl (hO.out.own.mod HM2.out (fun _ _ => id)) rfl (Src.ofRd ti24.ht _ _ HO2.out.rd (by simp) (bts_one _)) (by omega) (by unfold maxLen; omega) ?_; intro a3 c3 w3 hO3 hG3 _
      have HO3 := Hi ((hO.out.mod0 HM2.out).app hG3 hO3 rfl rfl); clear hO3 hG3))
   go_roundw
   case rel => exact ⟨k + 1, a3, c3, bs ++ lebl x, by go_num, hlt, by rw [List.length_append], by rw [HTK.out, hB.out]; exact Hi rfl, by rw [List.length_append]; omega, HO3⟩
   case measure => simp [intOf]; omega
  ·obtain rfl : k = c.length := by omega
   rw [List.take_length] at hB
   go_wp2_with fail
   go_ret
   exact ⟨a', c', by rw [← hB.out]; rfl, by rw [← hB.out]; exact hO.out⟩
theorem dlt_take : ∀ (c : List Nat) (p : Option Nat) (k : Nat), dlt p (c.take k) = (dlt p c).take k
 | [], p, k => by cases p <;> simp [dlt]
 | x :: r, p, 0 => by cases p <;> simp [dlt]
 | x :: r, p, k + 1 => by cases p <;> simp [dlt, dlt_take r]
def stepL (c : List Nat) (i : Nat) : Nat := if i = 0 then c.getD 0 0 else turnN ((c.getD i 0 : Nat) - (c.getD (i - 1) 0 : Nat) : Int)
theorem dlt_get : ∀ (c : List Nat) (p : Option Nat) (k : Nat), k < c.length → (dlt p c)[k]? = some (match k with | 0 => (match p with | none => c.getD 0 0 | some q => turnN ((c.getD 0 0 : Nat) - (q : Int))) | j + 1 => stepL c (j + 1))
 | [], p, k, h => by simp at h
 | x :: r, p, 0, h => by cases p <;> rfl
 | x :: r, p, k + 1, h => by
   have e : (dlt p (x :: r))[k + 1]? = (dlt (some x) r)[k]? := by cases p <;> rfl
   rw [e, dlt_get r (some x) k (by simpa using h)]
   cases k with
   | zero => rfl
   | succ j => rfl
theorem dlt_len : ∀ (c : List Nat) (p : Option Nat), (dlt p c).length = c.length
 | [], p => by cases p <;> rfl
 | x :: r, p => by cases p <;> simp [dlt, dlt_len r]
theorem layD_snoc (c : List Nat) (k : Nat) (h : k < c.length) : layD (c.take (k + 1)) = layD (c.take k) ++ lebl (stepL c k) := by
 unfold layD
 rw [dlt_take, dlt_take]
 have hk : k < (dlt none c).length := by rw [dlt_len]; exact h
 rw [List.take_succ_eq_append_getElem hk, List.flatMap_append]
 have e := dlt_get c none k h
 rw [List.getElem?_eq_getElem hk] at e
 have e2 : (dlt none c)[k] = stepL c k := by
  rw [Option.some.inj e]
  cases k with
  | zero => rfl
  | succ j => rfl
 rw [e2]
 simp
theorem stepL_lt {c : List Nat} (hu : U32 c) {k : Nat} (h : k < c.length) : stepL c k < 2 ^ 33 := by
 unfold stepL
 have g : ∀ i, i < c.length → c.getD i 0 < 2 ^ 32 := fun i hi => by
  rw [List.getD_eq_getElem?_getD, List.getElem?_eq_getElem hi]; exact hu _ (List.getElem_mem hi)
 split
 ·have := g 0 (by omega); omega
 ·have h1 := g k h
  have h2 := g (k - 1) (by omega)
  exact turnN_lt (by omega) (by omega)
theorem deltaR_any (a : Option Addr) (d : Nat) (c : List Nat) (w : World) (hr : Rd w a (u32s c)) (hu : U32 c) (hn : c.length < 2 ^ 32) :
 Calls Tryz.prog 159 #[.slice a c.length d] w (BPost w (layD c)) := by
 have HR := Hi hr; have HU := Hi hu
 clear hr hu
 go_enter Tryz.func159, Tryz.ntmps159
 go_wp2_with fail
 go_loopw [3, 4, 5] (fun bv iv _ wr => ∃ (k : Nat) (a' : Option Addr) (c' : Nat) (bs : List UInt8), iv = .int .i64 k ∧ k ≤ c.length ∧ bv = .slice a' bs.length c' ∧ Hid (bs = layD (c.take k)) ∧ bs.length ≤ 10 * k ∧ Hid (BOwn w wr a' c' bs)) (fun _ iv _ _ => c.length - (intOf iv).toNat)
 case atStart => exact ⟨0, none, 0, [], rfl, by omega, rfl, Hi rfl, by simp, Hi (BOwn.nil w)⟩
 case round =>
  obtain ⟨k, a', c', bs, rfl, hk, rfl, hB, hbl, hO⟩ := hrel
  by_cases hlt : k < c.length
  ·have hrd := HR.out.mod hO.out.md (fun _ _ => id)
   obtain ⟨b, o, rfl, x0⟩ := u32_cell hrd hlt
   have hx := HU.out _ (List.getElem_mem hlt)
   have HTK := Hi (layD_snoc c k hlt)
   have hsl := stepL_lt HU.out hlt
   have hl10 := lebl_len64 (stepL c k) (by omega)
   by_cases hk0 : k = 0
   ·have HST : Hid (stepL c k = c[k]) := Hi (by unfold stepL; rw [if_pos hk0, List.getD_eq_getElem?_getD, List.getElem?_eq_getElem (by omega)]; subst hk0; rfl)
    rw [HST.out] at HTK hl10 hsl
    have hkz : decide (0 < k) = false := by simp; omega
    clear hrd hk0
    generalize stepL c k = n at *
    generalize c[k] = x at *
    go_wp2_with (first
     |(go_at_call 88; refine (put_any x _ (by omega)).mono ?_; rintro e w2 ⟨g2, c2, rfl, hO2, hg2, hM2⟩; have HO2 := Hi hO2; have HM2 := Hi hM2; clear hO2 hM2)
     |(at_builtin; refine wpL_append rfl (.tmp 32) (.tmp 34) 23 23 rfl ti24 rfl (hO.out.own.mod HM2.out (fun _ _ => id)) rfl (Src.ofRd ti24.ht _ _ HO2.out.rd (by simp) (bts_one _)) (by omega) (by unfold maxLen; omega) ?_; intro a3 c3 w3 hO3 hG3 _
       have HO3 := Hi ((hO.out.mod0 HM2.out).app hG3 hO3 rfl rfl); clear hO3 hG3))
    go_roundw
    case rel => exact ⟨k + 1, a3, c3, bs ++ lebl x, by go_num, hlt, by rw [List.length_append], by rw [HTK.out, hB.out]; exact Hi rfl, by rw [List.length_append]; omega, HO3⟩
    case measure => simp [intOf]; omega
   ·obtain ⟨b', o', e', y0⟩ := u32_cell hrd (i := k - 1) (by omega)
    cases e'
    have hy := HU.out _ (List.getElem_mem (show k - 1 < c.length by omega))
    have HST : Hid (stepL c k = turnN ((c[k] : Int) - c[k - 1])) := Hi (by unfold stepL; rw [if_neg hk0, List.getD_eq_getElem?_getD, List.getD_eq_getElem?_getD, List.getElem?_eq_getElem (by omega), List.getElem?_eq_getElem (by omega)]; rfl)
    clear hrd
    generalize stepL c k = n at *
    generalize c[k] = x at *
    generalize c[k - 1] = y at *
    have hkn : ((k : Int) - 1).toNat = k - 1 := by omega
    have hk1 : 0 < k := by omega
    go_wp2_with fail
    refine wp_region_ord (fun w' => w'.cell? ⟨b, o + k, none⟩ = some (.int .u32 (x : Nat)) ∧ w'.cell? ⟨b, o + (k - 1), none⟩ = some (.int .u32 (y : Nat))) [(0, 0), (0, 1), (0, 2), (1, 3), (0, 4), (0, 5), (0, 6), (0, 7), (0, 8), (1, 9), (0, 10), (0, 11), (3, 12), (0, 13)] (by kernel_rfl) (by kernel_rfl) ?_
    go_wp2_with (first
     |(refine ord_pure rfl rfl rfl (fun K hK => ?_); go_big_quiet_op; refine hK _ ?_; clear hK K)
     |(refine ord_held rfl rfl rfl (⟨x0, y0⟩) (fun K hK => ?_); apply Exists.intro; refine ⟨fun w' hs => ?_, hK _ ?_⟩; (revert hs; dsimp only; (try simp only [and_imp]); intros; go_simp; rfl); clear hK K)
     |(refine ord_drop rfl rfl (fun K hK => ?_))
     |(refine ord_nil ?_))
    refine (turnR_any ((x : Int) - y) (by omega) (by omega) _).mono ?_
    rintro e w2 ⟨rfl, hw2⟩
    have HO4 : Hid (BOwn w w2 a' c' bs) := Hi (hO.out.mod0 (by rw [← hw2]; exact (Mod.refl _ wr).drew))
    rw [← HST.out]
    clear hw2 x0 y0 hO
    go_wp2_with (first
     |(refine ord_pure rfl rfl rfl (fun K hK => ?_); go_big_quiet_op; refine hK _ ?_; clear hK K)
     |(refine ord_held rfl rfl rfl (trivial) (fun K hK => ?_); apply Exists.intro; refine ⟨fun w' hs => ?_, hK _ ?_⟩; (revert hs; dsimp only; (try simp only [and_imp]); intros; go_simp; rfl); clear hK K)
     |(refine ord_drop rfl rfl (fun K hK => ?_))
     |(refine ord_nil ?_)
     |(go_at_call 88; refine (put_any n _ (by omega)).mono ?_; rintro e w2 ⟨g2, c2, rfl, hO2, hg2, hM2⟩; have HO2 := Hi hO2; have HM2 := Hi hM2; clear hO2 hM2)
     |(at_builtin; refine wpL_append rfl (.tmp 32) (.tmp 34) 23 23 rfl ti24 rfl (HO4.out.own.mod HM2.out (fun _ _ => id)) rfl (Src.ofRd ti24.ht _ _ HO2.out.rd (by simp) (bts_one _)) (by omega) (by unfold maxLen; omega) ?_; intro a3 c3 w3 hO3 hG3 _
       have HO3 := Hi ((HO4.out.mod0 HM2.out).app hG3 hO3 rfl rfl); clear hO3 hG3))
    go_roundw
    case rel => exact ⟨k + 1, a3, c3, bs ++ lebl n, by go_num, hlt, by rw [List.length_append], by rw [HTK.out, hB.out]; exact Hi rfl, by rw [List.length_append]; omega, HO3⟩
    case measure => simp [intOf]; omega
  ·obtain rfl : k = c.length := by omega
   rw [List.take_length] at hB
   go_wp2_with fail
   go_ret
   exact ⟨a', c', by rw [← hB.out]; rfl, by rw [← hB.out]; exact hO.out⟩
end Go.Proofs.YtjoiaejbahdjkaaGreat
/-
  The document's runs: walked.
-/
namespace Go.Proofs.YtjoiaejbahdjkaaGreat
open Go Go.RowKit Go.Mine
set_option linter.unusedVariables false
set_option maxHeartbeats 4000000
set_option maxRecDepth 100000
theorem takeW_all (x : Nat) : ∀ (l : List Nat) (j : Nat) (h : j < l.length), j < (l.takeWhile (· == x)).length → l[j] = x
 | [], j, h, _ => by simp at h
 | y :: r, j, h, hj => by
   by_cases hy : y = x
   ·subst hy
    rw [List.takeWhile_cons_of_pos (by simp)] at hj
    cases j with
    | zero => rfl
    | succ j => exact takeW_all y r j (by simpa using h) (by simpa using hj)
   ·rw [List.takeWhile_cons_of_neg (by simpa using hy)] at hj
    simp at hj
theorem takeW_end (x : Nat) : ∀ (l : List Nat) (h : (l.takeWhile (· == x)).length < l.length), l[(l.takeWhile (· == x)).length] ≠ x
 | [], h => by simp at h
 | y :: r, h => by
   by_cases hy : y = x
   ·subst hy
    have e : ((y :: r).takeWhile (· == y)).length = (r.takeWhile (· == y)).length + 1 := by rw [List.takeWhile_cons_of_pos (by simp)]; rfl
    have h2 : (r.takeWhile (· == y)).length < r.length := by rw [e] at h; simpa using h
    have h3 := takeW_end y r h2
    simp only [e, List.getElem_cons_succ]
    exact h3
   ·have e : ((y :: r).takeWhile (· == x)).length = 0 := by rw [List.takeWhile_cons_of_neg (by simpa using hy)]; rfl
    simp only [e, List.getElem_cons_zero]
    exact hy
def runT (c : List Nat) (i : Nat) : Nat := ((c.drop (i + 1)).takeWhile (· == c.getD i 0)).length + 1
theorem getD_at {c : List Nat} {i : Nat} (h : i < c.length) : c.getD i 0 = c[i] := by rw [List.getD_eq_getElem?_getD, List.getElem?_eq_getElem h]; rfl
theorem run_at (c : List Nat) (i : Nat) (h : i < c.length) : 1 ≤ runT c i ∧ i + runT c i ≤ c.length ∧ (∀ k, i ≤ k → k < i + runT c i → ∀ hk : k < c.length, c[k] = c[i]) ∧ (∀ hk : i + runT c i < c.length, c[i + runT c i] ≠ c[i]) ∧
 rns (c.drop i) = (c[i], runT c i) :: rns (c.drop (i + runT c i)) := by
 unfold runT
 rw [getD_at h]
 have hl := takeW_le c[i] (c.drop (i + 1))
 have ha := takeW_all c[i] (c.drop (i + 1))
 have he := takeW_end c[i] (c.drop (i + 1))
 have hd : c.drop i = c[i] :: c.drop (i + 1) := List.drop_eq_getElem_cons h
 have hr : rns (c.drop i) = (c[i], ((c.drop (i + 1)).takeWhile (· == c[i])).length + 1) :: rns ((c.drop (i + 1)).drop ((c.drop (i + 1)).takeWhile (· == c[i])).length) := by rw [hd, rns]
 rw [hr]
 generalize ((c.drop (i + 1)).takeWhile (· == c[i])).length = T at *
 rw [List.length_drop] at hl
 refine ⟨by omega, by omega, fun k h1 h2 hk => ?_, fun hk => ?_, by rw [List.drop_drop, show i + 1 + T = i + (T + 1) by omega]⟩
 ·by_cases hki : k = i
  ·subst hki; rfl
  ·have h3 := ha (k - (i + 1)) (by rw [List.length_drop]; omega) (by omega)
   rw [List.getElem_drop] at h3
   have e : i + 1 + (k - (i + 1)) = k := by omega
   simp only [e] at h3
   exact h3
 ·have h3 := he (by rw [List.length_drop]; omega)
  rw [List.getElem_drop] at h3
  have e : i + 1 + T = i + (T + 1) := by omega
  simp only [e] at h3
  exact h3
theorem layR_at (c : List Nat) (i : Nat) (h : i < c.length) : layR (c.drop i) = lebl c[i] ++ lebl (runT c i) ++ layR (c.drop (i + runT c i)) := by
 unfold layR
 rw [(run_at c i h).2.2.2.2, List.flatMap_cons]
theorem runR_any (a : Option Addr) (d : Nat) (c : List Nat) (w : World) (hr : Rd w a (u32s c)) (hu : U32 c) (hn : c.length < 2 ^ 32) :
 Calls Tryz.prog 160 #[.slice a c.length d] w (BPost w (layR c)) := by
 have HR := Hi hr; have HU := Hi hu
 clear hr hu
 go_enter Tryz.func160, Tryz.ntmps160
 go_wp2_with fail
 go_loopw [3, 4, 5] (fun bv iv _ wr => ∃ (k : Nat) (a' : Option Addr) (c' : Nat) (bs : List UInt8), iv = .int .i64 k ∧ k ≤ c.length ∧ bv = .slice a' bs.length c' ∧ Hid (layR c = bs ++ layR (c.drop k)) ∧ bs.length ≤ 20 * k ∧ Hid (BOwn w wr a' c' bs)) (fun _ iv _ _ => c.length - (intOf iv).toNat)
 case atStart => exact ⟨0, none, 0, [], rfl, by omega, rfl, Hi rfl, by simp, Hi (BOwn.nil w)⟩
 case round =>
  obtain ⟨i, a', c', bs, rfl, hk, rfl, hB, hbl, hO⟩ := hrel
  by_cases hlt : i < c.length
  ·obtain ⟨b, o, rfl, x0⟩ := u32_cell (HR.out.mod hO.out.md (fun _ _ => id)) hlt
   have hx := HU.out _ (List.getElem_mem hlt)
   obtain ⟨hT1, hT2, hTA, hTE, -⟩ := run_at c i hlt
   have hTL := layR_at c i hlt
   have HTA := Hi hTA; have HTE := Hi hTE; have HTL := Hi hTL
   clear hTA hTE hTL
   have hl10 := lebl_len64 c[i] (by omega)
   have hl11 := lebl_len64 (runT c i) (by omega)
   generalize runT c i = T at *
   rename World => wq
   go_wp2_with fail
   go_loopw [5] (fun kv wr => ∃ k : Nat, kv = .int .i64 k ∧ i ≤ k ∧ k ≤ i + T ∧ Hid (Mod (fun _ => False) wq wr)) (fun kv _ => i + T - (intOf kv).toNat)
   case atStart => exact ⟨i, rfl, Nat.le_refl _, by omega, Hi (Mod.refl _ _)⟩
   case round =>
    obtain ⟨k, rfl, h1, h2, hm⟩ := hrel
    have x0' := hm.out.cell x0 id
    by_cases hkT : k < i + T
    ·obtain ⟨b', o', e', y0⟩ := u32_cell (HR.out.mod (hO.out.md.trans hm.out) (fun _ _ => id)) (i := k) (by omega)
     cases e'
     rw [HTA.out k h1 hkT (by omega)] at y0
     generalize c[i] = x at *
     have hklen : k < c.length := by omega
     go_wp2_with fail
     refine wp_region_ord (fun w' => w'.cell? ⟨b, o + k, none⟩ = some (.int .u32 (x : Nat)) ∧ w'.cell? ⟨b, o + i, none⟩ = some (.int .u32 (x : Nat))) [(0, 0), (0, 1), (0, 2), (0, 3), (0, 4), (0, 5), (0, 6), (0, 7), (1, 8), (0, 9), (0, 10), (0, 11), (1, 12), (0, 13), (0, 14)] (by kernel_rfl) (by kernel_rfl) ?_
     go_wp2_with (first
      |(refine ord_pure rfl rfl rfl (fun K hK => ?_); go_big_quiet_op; refine hK _ ?_; clear hK K)
      |(refine ord_skip rfl rfl ?_; simp only [Act.put, List.setIfInBounds_toArray, List.set_cons_zero, List.set_cons_succ])
      |(refine ord_held rfl rfl rfl (⟨y0, x0'⟩) (fun K hK => ?_); apply Exists.intro; refine ⟨fun w' hs => ?_, hK _ ?_⟩; (revert hs; dsimp only; (try simp only [and_imp]); intros; go_simp; rfl); clear hK K)
      |(refine ord_nil ?_))
     go_roundw
     case rel => exact ⟨k + 1, by go_num, by omega, by omega, Hi hm.out.drew⟩
     case measure => simp [intOf]; omega
    ·have HKK := Hi (show k = i + T by omega)
     have hik : k ≤ c.length := by omega
     clear hkT h2
     by_cases hke : k < c.length
     ·obtain ⟨b', o', e', y0⟩ := u32_cell (HR.out.mod (hO.out.md.trans hm.out) (fun _ _ => id)) (i := k) hke
      cases e'
      have hne : c[k] ≠ c[i] := by have := HTE.out (by rw [← HKK.out]; exact hke); simp only [← HKK.out] at this; exact this
      generalize c[i] = x at *
      generalize c[k] = y at *
      have hbe : ((y : Int) == (x : Int)) = false := by simp; omega
      go_wp2_with fail
      refine wp_region_ord (fun w' => w'.cell? ⟨b, o + k, none⟩ = some (.int .u32 (y : Nat)) ∧ w'.cell? ⟨b, o + i, none⟩ = some (.int .u32 (x : Nat))) [(0, 0), (0, 1), (0, 2), (0, 3), (0, 4), (0, 5), (0, 6), (0, 7), (1, 8), (0, 9), (0, 10), (0, 11), (1, 12), (0, 13), (0, 14)] (by kernel_rfl) (by kernel_rfl) ?_
      go_wp2_with (first
       |(refine ord_pure rfl rfl rfl (fun K hK => ?_); go_big_quiet_op; refine hK _ ?_; clear hK K)
       |(refine ord_skip rfl rfl ?_; simp only [Act.put, List.setIfInBounds_toArray, List.set_cons_zero, List.set_cons_succ])
       |(refine ord_held rfl rfl rfl (⟨y0, x0'⟩) (fun K hK => ?_); apply Exists.intro; refine ⟨fun w' hs => ?_, hK _ ?_⟩; (revert hs; dsimp only; (try simp only [and_imp]); intros; go_simp; rfl); clear hK K)
       |(refine ord_nil ?_))
      clear y0 hbe
      have HO5 : Hid (BOwn w wr.drew a' c' bs) := Hi (hO.out.mod0 hm.out.drew)
      have z0 : wr.drew.cell? ⟨b, o + i, none⟩ = some (.int .u32 (x : Nat)) := x0'
      have HKT : Hid (((k : Int) - i) = (T : Nat)) := Hi (by have := HKK.out; omega)
      clear hm x0' hO x0
      generalize wr.drew = w5 at *
      go_wp2_with fail
      refine (put_any x _ (by omega)).mono ?_
      rintro e w2 ⟨g2, c2, rfl, hO2, hg2, hM2⟩
      have HO2 := Hi hO2; have HM2 := Hi hM2
      clear hO2 hM2
      go_wp2_with (at_builtin; refine wpL_append rfl (.tmp 28) (.tmp 34) 23 23 rfl ti24 rfl (HO5.out.own.mod HM2.out (fun _ _ => id)) rfl (Src.ofRd ti24.ht _ _ HO2.out.rd (by simp) (bts_one _)) (by omega) (by unfold maxLen; omega) ?_; intro a3 c3 w3 hO3 hG3 _
                   have HO3 := Hi ((HO5.out.mod0 HM2.out).app hG3 hO3 rfl rfl); clear hO3 hG3)
      rw [HKT.out]
      refine (put_any T _ (by omega)).mono ?_
      rintro e w4 ⟨g4, c4, rfl, hO4, hg4, hM4⟩
      have HO4 := Hi hO4; have HM4 := Hi hM4
      clear hO4 hM4
      go_wp2_with (at_builtin; refine wpL_append rfl (.tmp 36) (.tmp 41) 23 23 rfl ti24 rfl (by have := (HO3.out.mod0 HM4.out).own; rw [List.length_append] at this; exact this) rfl (Src.ofRd ti24.ht _ _ HO4.out.rd (by simp) (bts_one _)) (by omega) (by unfold maxLen; omega) ?_; intro a6 c6 w6 hO6 hG6 _
                   have HO6 := Hi ((HO3.out.mod0 HM4.out).app hG6 hO6 rfl (by rw [List.length_append])); clear hO6 hG6)
      go_roundw
      case rel => exact ⟨k, a6, c6, bs ++ lebl x ++ lebl T, rfl, hik, by rw [List.length_append, List.length_append], Hi (by rw [hB.out, HTL.out, HKK.out]; simp only [List.append_assoc]), by have := HKK.out; rw [List.length_append, List.length_append]; omega, HO6⟩
      case measure => have := HKK.out; simp [intOf]; omega
     ·generalize c[i] = x at *
      go_wp2_with fail
      refine wp_region_ord (fun w' => True) [(0, 0), (0, 1), (0, 2), (0, 3), (0, 4), (0, 5), (0, 6), (0, 7), (1, 8), (0, 9), (0, 10), (0, 11), (1, 12), (0, 13), (0, 14)] (by kernel_rfl) (by kernel_rfl) ?_
      go_wp2_with (first
       |(refine ord_pure rfl rfl rfl (fun K hK => ?_); go_big_quiet_op; refine hK _ ?_; clear hK K)
       |(refine ord_skip rfl rfl ?_; simp only [Act.put, List.setIfInBounds_toArray, List.set_cons_zero, List.set_cons_succ])
       |(refine ord_held rfl rfl rfl (trivial) (fun K hK => ?_); apply Exists.intro; refine ⟨fun w' hs => ?_, hK _ ?_⟩; (revert hs; dsimp only; (try simp only [and_imp]); intros; go_simp; rfl); clear hK K)
       |(refine ord_nil ?_))
      have HO5 : Hid (BOwn w wr.drew a' c' bs) := Hi (hO.out.mod0 hm.out.drew)
      have z0 : wr.drew.cell? ⟨b, o + i, none⟩ = some (.int .u32 (x : Nat)) := x0'
      have HKT : Hid (((k : Int) - i) = (T : Nat)) := Hi (by have := HKK.out; omega)
      clear hm x0' hO x0
      generalize wr.drew = w5 at *
      go_wp2_with fail
      refine (put_any x _ (by omega)).mono ?_
      rintro e w2 ⟨g2, c2, rfl, hO2, hg2, hM2⟩
      have HO2 := Hi hO2; have HM2 := Hi hM2
      clear hO2 hM2
      go_wp2_with (at_builtin; refine wpL_append rfl (.tmp 28) (.tmp 34) 23 23 rfl ti24 rfl (HO5.out.own.mod HM2.out (fun _ _ => id)) rfl (Src.ofRd ti24.ht _ _ HO2.out.rd (by simp) (bts_one _)) (by omega) (by unfold maxLen; omega) ?_; intro a3 c3 w3 hO3 hG3 _
                   have HO3 := Hi ((HO5.out.mod0 HM2.out).app hG3 hO3 rfl rfl); clear hO3 hG3)
      rw [HKT.out]
      refine (put_any T _ (by omega)).mono ?_
      rintro e w4 ⟨g4, c4, rfl, hO4, hg4, hM4⟩
      have HO4 := Hi hO4; have HM4 := Hi hM4
      clear hO4 hM4
      go_wp2_with (at_builtin; refine wpL_append rfl (.tmp 36) (.tmp 41) 23 23 rfl ti24 rfl (by have := (HO3.out.mod0 HM4.out).own; rw [List.length_append] at this; exact this) rfl (Src.ofRd ti24.ht _ _ HO4.out.rd (by simp) (bts_one _)) (by omega) (by unfold maxLen; omega) ?_; intro a6 c6 w6 hO6 hG6 _
                   have HO6 := Hi ((HO3.out.mod0 HM4.out).app hG6 hO6 rfl (by rw [List.length_append])); clear hO6 hG6)
      go_roundw
      case rel => exact ⟨k, a6, c6, bs ++ lebl x ++ lebl T, rfl, hik, by rw [List.length_append, List.length_append], Hi (by rw [hB.out, HTL.out, HKK.out]; simp only [List.append_assoc]), by have := HKK.out; rw [List.length_append, List.length_append]; omega, HO6⟩
      case measure => have := HKK.out; simp [intOf]; omega
  ·obtain rfl : i = c.length := by omega
   have e : layR c = bs := by
    have := hB.out
    rw [List.drop_length] at this
    have e2 : layR [] = [] := by unfold layR; rw [rns]; rfl
    rw [this, e2, List.append_nil]
   go_wp2_with fail
   go_ret
   exact ⟨a', c', by rw [e]; rfl, by rw [e]; exact hO.out⟩
end Go.Proofs.YtjoiaejbahdjkaaGreat
/-
  The document's packed way: walked.
-/
namespace Go.Proofs.YtjoiaejbahdjkaaGreat
open Go Go.RowKit Go.Mine
set_option linter.unusedVariables false
set_option maxHeartbeats 4000000
set_option maxRecDepth 100000
theorem mkZ {P : Program} {t e : TypeId} {z : Value} {bytes : Nat} (ht : P.underlying t = some (.slice e)) (h : (P.info? e).map (fun i => (i.zero, i.size, i.bytes)) = some (some z, 1, bytes)) (hz : z.cells = #[z]) (n : Nat) (hn : bytes * n ≤ 2 ^ 46) (h2 : n ≤ 2 ^ 60) (w : World) :
 (Instr.makeSlice t (.int .i64 (n : Nat)) (.int .i64 (n : Nat))).run P w = .ok (.slice (some ⟨w.heap.size, 0, none⟩) n n) (w.alloc (.cells (Array.replicate n z) e)) := by
 obtain ⟨i, h1, h2', h3, h4⟩ := info_parts h
 have hr := run_make w t e i z ht h1 h2' .i64 .i64 n n (by omega) (Int.le_refl _) (by rw [h4]; omega) (by omega)
 simp only [Int.toNat_natCast] at hr
 have e1 : madeCells #[z] n = Array.replicate n z := by
  refine Array.toList_inj.1 ?_
  rw [toList_madeCells_one, Array.toList_replicate]
 rw [hr, h3, Nat.mul_one, hz, e1]
theorem mkB (n : Nat) (hn : n ≤ 2 ^ 40) (w : World) : (Instr.makeSlice 23 (.int .i64 (n : Nat)) (.int .i64 (n : Nat))).run Tryz.prog w = .ok (.slice (some ⟨w.heap.size, 0, none⟩) n n) (w.alloc (.cells (Array.replicate n (.int .u8 0)) 5)) :=
 mkZ (z := .int .u8 0) (bytes := 1) (by kernel_rfl) (by kernel_rfl) rfl n (by omega) (by omega) w
theorem foldl_snoc_max (l : List Nat) (x : Nat) : (l ++ [x]).foldl max 0 = max (l.foldl max 0) x := by rw [List.foldl_append]; rfl
theorem wideN_snoc (c : List Nat) (x : Nat) : wideN (c ++ [x]) = max (wideN c) (lenN x) := by unfold wideN; rw [List.map_append]; exact foldl_snoc_max _ _
theorem byteUp_succ (c : List Nat) (w m j : Nat) : byteUp c w (m + 1) j = byteUp c w m j + (if m / 8 = j then bitC c w m * 2 ^ (m % 8) else 0) := by
 unfold byteUp
 have key : ∀ n, ((List.range n).map fun t => if 8 * j + t < m + 1 then bitC c w (8 * j + t) * 2 ^ t else 0).sum = ((List.range n).map fun t => if 8 * j + t < m then bitC c w (8 * j + t) * 2 ^ t else 0).sum + (if 8 * j ≤ m ∧ m < 8 * j + n then bitC c w m * 2 ^ (m - 8 * j) else 0) := fun n => by
  induction n with
  | zero => rw [if_neg (by omega)]; rfl
  | succ n ih =>
    rw [List.range_succ, List.map_append, List.sum_append, List.map_append, List.sum_append, ih]
    simp only [List.map_cons, List.map_nil, List.sum_cons, List.sum_nil, Nat.add_zero]
    by_cases h1 : 8 * j + n = m
    ·rw [if_pos (show 8 * j + n < m + 1 by omega), if_neg (show ¬ 8 * j + n < m by omega), if_neg (by omega), if_pos (by omega), h1, show m - 8 * j = n by omega]
     all_goals omega
    ·by_cases h2 : 8 * j + n < m
     ·rw [if_pos (show 8 * j + n < m + 1 by omega), if_pos h2, if_neg (by omega), if_neg (by omega)]
      omega
     ·rw [if_neg (show ¬ 8 * j + n < m + 1 by omega), if_neg h2]
      by_cases h3 : 8 * j ≤ m
      ·rw [if_pos (by omega), if_pos (by omega)]
       omega
      ·rw [if_neg (by omega), if_neg (by omega)]
 rw [key 8]
 by_cases h : m / 8 = j
 ·rw [if_pos h, if_pos (by omega), show m - 8 * j = m % 8 by omega]
 ·rw [if_neg h, if_neg (by omega)]
theorem rowUp_get (c : List Nat) (w m j : Nat) (h : j < (c.length * w + 7) / 8) : (rowUp c w m)[j]? = some (UInt8.ofNat (byteUp c w m j)) := by
 unfold rowUp
 rw [List.getElem?_map, List.getElem?_range h]
 rfl
theorem rowUp_set (c : List Nat) (w m : Nat) (h : m < c.length * w) : rowUp c w (m + 1) = (rowUp c w m).set (m / 8) (UInt8.ofNat (byteUp c w m (m / 8) + bitC c w m * 2 ^ (m % 8))) := by
 refine List.ext_getElem? fun j => ?_
 by_cases hj : j < (c.length * w + 7) / 8
 ·rw [rowUp_get c w _ j hj, byteUp_succ, List.getElem?_set]
  by_cases he : m / 8 = j
  ·subst he
   rw [if_pos rfl, if_pos rfl, if_pos (by rw [rowUp_len]; exact hj)]
  ·rw [if_neg he, if_neg he, rowUp_get c w m j hj, Nat.add_zero]
 ·rw [List.getElem?_eq_none (by rw [rowUp_len]; omega), List.getElem?_eq_none (by rw [List.length_set, rowUp_len]; omega)]
theorem rowUp_same (c : List Nat) (w m : Nat) (h : m < c.length * w) (h0 : bitC c w m = 0) : rowUp c w (m + 1) = rowUp c w m := by
 unfold rowUp
 refine List.map_congr_left fun j _ => ?_
 rw [byteUp_succ, h0]
 simp
theorem rowUp_zero (c : List Nat) (w : Nat) : rowUp c w 0 = List.replicate ((c.length * w + 7) / 8) 0 := by
 refine List.ext_getElem? fun j => ?_
 by_cases hj : j < (c.length * w + 7) / 8
 ·rw [rowUp_get c w _ j hj, List.getElem?_replicate, if_pos hj]
  have : byteUp c w 0 j = 0 := rfl
  rw [this]; rfl
 ·rw [List.getElem?_eq_none (by rw [rowUp_len]; omega), List.getElem?_eq_none (by simp; omega)]
theorem byteUp_room (c : List Nat) (w m : Nat) : byteUp c w m (m / 8) < 2 ^ (m % 8) := by
 unfold byteUp
 have key : ∀ n, ((List.range n).map fun t => if 8 * (m / 8) + t < m then bitC c w (8 * (m / 8) + t) * 2 ^ t else 0).sum < 2 ^ (min n (m % 8)) := fun n => by
  induction n with
  | zero => simp
  | succ n ih =>
    rw [List.range_succ, List.map_append, List.sum_append]
    simp only [List.map_cons, List.map_nil, List.sum_cons, List.sum_nil, Nat.add_zero]
    by_cases h : n < m % 8
    ·rw [if_pos (by omega)]
     rw [Nat.min_eq_left (by omega)] at ih
     rw [Nat.min_eq_left (by omega), Nat.pow_succ]
     have h1 : bitC c w (8 * (m / 8) + n) < 2 := bitN_lt _ _
     have := Nat.mul_le_mul_right (2 ^ n) (show bitC c w (8 * (m / 8) + n) ≤ 1 by omega)
     omega
    ·rw [if_neg (by omega), Nat.add_zero]
     rw [Nat.min_eq_right (by omega)] at ih ⊢
     exact ih
 have := key 8
 rw [Nat.min_eq_right (by omega)] at this
 exact this
theorem shr_cast (x v : Nat) : (x : Int) / 2 ^ v = ((x / 2 ^ v : Nat) : Int) := by push_cast; rfl
theorem shr_yes {x v : Nat} (h : 2 ^ v ≤ x) : ((x : Int) / 2 ^ v != 0) = true := by
 have : 0 < x / 2 ^ v := Nat.div_pos h (Nat.two_pow_pos v)
 rw [shr_cast]
 have h2 : ((x / 2 ^ v : Nat) : Int) ≠ 0 := by omega
 simpa using h2
theorem shr_no {x v : Nat} (h : x < 2 ^ v) : ((x : Int) / 2 ^ v != 0) = false := by
 rw [shr_cast, Nat.div_eq_of_lt h]
 rfl
theorem packedR_any (a : Option Addr) (d : Nat) (c : List Nat) (w : World) (hr : Rd w a (u32s c)) (hu : U32 c) (hn : c.length < 2 ^ 32) :
 Calls Tryz.prog 161 #[.slice a c.length d] w (BPost w (layK c)) := by
 have HR := Hi hr; have HU := Hi hu
 clear hr hu
 go_enter Tryz.func161, Tryz.ntmps161
 go_wp2_with fail
 go_loopw [3, 4] (fun vv iv wr => ∃ k : Nat, iv = .int .i64 k ∧ k ≤ c.length ∧ vv = .int .i64 (wideN (c.take k) : Nat) ∧ wr = w) (fun _ iv _ => c.length - (intOf iv).toNat)
 case atStart => exact ⟨0, rfl, by omega, rfl, rfl⟩
 case round =>
  obtain ⟨k, rfl, hk, rfl, hww⟩ := hrel
  obtain rfl : w = wr := hww.symm
  clear hww
  by_cases hlt : k < c.length
  ·obtain ⟨b, o, rfl, x0⟩ := u32_cell HR.out hlt
   have hx := HU.out _ (List.getElem_mem hlt)
   have htk : c.take (k + 1) = c.take k ++ [c[k]] := List.take_succ_eq_append_getElem hlt
   have HTK : Hid (wideN (c.take (k + 1)) = max (wideN (c.take k)) (lenN c[k])) := Hi (by rw [htk, wideN_snoc])
   have hw32 : wideN (c.take k) ≤ 32 := wideN_le (fun x hx => HU.out x (List.mem_of_mem_take hx))
   have hl32 := lenN_le.2 hx
   have HL := Hi (fun v => (lenN_le (n := c[k]) (k := v)))
   clear htk
   generalize lenN c[k] = lx at *
   generalize c[k] = x at *
   generalize wideN (c.take k) = v0 at *
   go_wp2_with fail
   go_loopw [3] (fun vv wr => ∃ v : Nat, vv = .int .i64 v ∧ v0 ≤ v ∧ v ≤ max v0 lx ∧ wr = w) (fun vv _ => 64 - (intOf vv).toNat)
   case atStart => exact ⟨v0, rfl, Nat.le_refl _, by omega, rfl⟩
   case round =>
    obtain ⟨v, rfl, h1, h2, hww⟩ := hrel
    obtain rfl : w = wr := hww.symm
    clear hww
    have hv32 : v ≤ 32 := by omega
    have HV := HL.out v
    by_cases hvl : v < lx
    ·have hq := shr_yes (x := x) (v := v) (by omega)
     clear HV
     go_wp2_with fail
     go_roundw
     case rel => exact ⟨v + 1, by go_num, by omega, by omega, trivial⟩
     case measure => simp [intOf]; omega
    ·have hq := shr_no (x := x) (v := v) (by omega)
     have hv : v = max v0 lx := by omega
     rw [← hv] at HTK
     clear HV hv
     go_wp2_with fail
     go_roundw
     case rel => exact ⟨k + 1, by go_num, hlt, by rw [HTK.out], trivial⟩
     case measure => simp [intOf]; omega
  ·obtain rfl : k = c.length := by omega
   rw [List.take_length]
   have hW : wideN c ≤ 32 := wideN_le HU.out
   have HLK : Hid (layK c = UInt8.ofNat (wideN c) :: rowUp c (wideN c) (c.length * wideN c)) := Hi rfl
   obtain ⟨N, hN⟩ : ∃ N, N = c.length * wideN c := ⟨_, rfl⟩
   have hNb : N ≤ 2 ^ 37 := by rw [hN]; exact Nat.le_trans (Nat.mul_le_mul_left _ hW) (by omega)
   have hNZ : (c.length : Int) * (wideN c : Int) = (N : Int) := by rw [hN]; push_cast; rfl
   have HN := Hi hN
   clear hN hlt
   generalize wideN c = W at *
   have hm8 : ((N : Int) + 7) / 8 = (((N + 7) / 8 : Nat) : Int) := by omega
   have hmk := mkB ((N + 7) / 8) (by omega) (w.alloc (.cells #[.int .u8 (W : Nat)] 5))
   generalize hMM : (N + 7) / 8 = M at *
   have HM := Hi hMM
   clear hMM
   obtain ⟨wz, hwz⟩ : ∃ v, v = (w.alloc (.cells #[.int .u8 (W : Nat)] 5)).alloc (.cells (Array.replicate M (.int .u8 0)) 5) := ⟨_, rfl⟩
   have HO1 : Hid (BOwn w wz (some ⟨w.heap.size, 0, none⟩) 1 [UInt8.ofNat W]) := Hi (by
    have h1 := Mine.Own.made w 5 1 #[.int .u8 (W : Nat)] 1 1 (Nat.le_refl _) (by unfold maxLen; omega) rfl
    have h2 : BOwn w (w.alloc (.cells #[.int .u8 (W : Nat)] 5)) (some ⟨w.heap.size, 0, none⟩) 1 [UInt8.ofNat W] := by
     refine ⟨?_, fun b hb => by cases hb; exact Nat.le_refl _, (Mod.refl _ w).alloc _⟩
     have e : bts [UInt8.ofNat W] = [.int .u8 (W : Nat)] := by simp [bts]; omega
     rw [e]
     exact h1
    rw [hwz]
    exact h2.mod0 ((Mod.refl _ _).alloc _))
   have HO2 : Hid (Mine.Own wz 5 1 (some ⟨w.heap.size + 1, 0, none⟩) M M (bts (rowUp c W 0))) := Hi (by
    have h1 := Mine.Own.made (w.alloc (.cells #[.int .u8 (W : Nat)] 5)) 5 1 (Array.replicate M (.int .u8 0)) M M (Nat.le_refl _) (by unfold maxLen; omega) (by simp)
    rw [← hwz, World.size_alloc] at h1
    have e : bts (rowUp c W 0) = (Array.replicate M (Value.int .u8 0)).toList.take (M * 1) := by
     rw [rowUp_zero, ← HN.out, HM.out]
     simp [bts]
    rw [e]
    exact h1)
   go_wp2_with fail
   rw [← hwz]
   clear hmk hwz
   have HG := Hi (show w.heap.size ≤ w.heap.size + 1 by omega)
   have HG0 := Hi (show w.heap.size ≠ w.heap.size + 1 by omega)
   generalize w.heap.size + 1 = g at *
   go_loopw [7, 8, 9] (fun iv _ _ wr => ∃ i : Nat, iv = .int .i64 i ∧ i ≤ c.length ∧ Hid (Mine.Own wr 5 1 (some ⟨g, 0, none⟩) M M (bts (rowUp c W (i * W)))) ∧ Hid (Mod (fun b => b = g) wz wr)) (fun iv _ _ _ => c.length - (intOf iv).toNat)
   case atStart => exact ⟨0, rfl, Nat.zero_le _, by rw [Nat.zero_mul]; exact HO2, Hi (Mod.refl _ _)⟩
   case round =>
    clear HO2
    obtain ⟨i, rfl, hi, hO, hM⟩ := hrel
    by_cases hlt : i < c.length
    ·have mw : Mod (fun _ => False) w wr := HO1.out.md.step hM.out (fun b hb e => by have := HG.out; omega)
     obtain ⟨b, o, rfl, x00⟩ := u32_cell HR.out hlt
     have x0 := mw.cell x00 id
     have hbl : b < w.heap.size := World.block_lt_of_cell? w _ x00
     have HBG : Hid (b ≠ g) := Hi (by have := HG.out; omega)
     clear x00 hbl
     have HBC : Hid (∀ k, k < W → bitC c W (i * W + k) = bitN c[i] k) := Hi (fun k hk => by
      unfold bitC
      have hd : (i * W + k) / W = i := by
       rw [Nat.add_comm, Nat.add_mul_div_right _ _ (by omega), Nat.div_eq_of_lt hk]; omega
      have hm : (i * W + k) % W = k := by
       rw [Nat.add_comm, Nat.add_mul_mod_self_right, Nat.mod_eq_of_lt hk]
      rw [hd, hm, List.getD_eq_getElem?_getD, List.getElem?_eq_getElem hlt]
      rfl)
     have hIN : i * W + W ≤ N := by
      rw [HN.out]
      have := Nat.mul_le_mul_right W (show i + 1 ≤ c.length by omega)
      rw [Nat.add_mul] at this
      omega
     have hx32 := HU.out _ (List.getElem_mem hlt)
     have HI1 : Hid ((i + 1) * W = i * W + W) := Hi (by rw [Nat.add_mul, Nat.one_mul])
     have hiW : (i : Int) * (W : Int) = ((i * W : Nat) : Int) := by push_cast; rfl
     have HMW := Hi mw
     clear mw
     generalize c[i] = x at *
     generalize i * W = I at *
     rename World => wq
     go_wp2_with fail
     go_loopw [8, 9] (fun kv _ wr => ∃ k : Nat, kv = .int .i64 k ∧ k ≤ W ∧ Hid (Mine.Own wr 5 1 (some ⟨g, 0, none⟩) M M (bts (rowUp c W (I + k)))) ∧ Hid (Mod (fun b => b = g) wq wr)) (fun kv _ _ => W - (intOf kv).toNat)
     case atStart => exact ⟨0, rfl, Nat.zero_le _, hO, Hi (Mod.refl _ _)⟩
     case round =>
      obtain ⟨k, rfl, hk, hO3, hM3⟩ := hrel
      by_cases hlk : k < W
      ·have hbc := HBC.out k hlk
       have y0 := hM3.out.cell x0 (fun e => HBG.out e)
       have hmI : (I : Int) + (k : Int) = ((I + k : Nat) : Int) := by omega
       have HK1 : Hid (I + (k + 1) = I + k + 1) := Hi (by omega)
       have hmN : I + k < N := by omega
       have HSET := Hi (rowUp_set c W (I + k) (by rw [← HN.out]; exact hmN))
       have HSAME := Hi (rowUp_same c W (I + k) (by rw [← HN.out]; exact hmN))
       have HRM := Hi (byteUp_room c W (I + k))
       rw [hbc] at HSET HSAME
       clear hbc
       have hrg := rowUp_get c W (I + k) ((I + k) / 8) (by rw [← HN.out, HM.out]; have := HM.out; omega)
       have y1 : wr.cell? ⟨g, (I + k) / 8, none⟩ = some (.int .u8 (byteUp c W (I + k) ((I + k) / 8) : Nat)) := by
        obtain ⟨b', o', e', h1⟩ := hO3.out.rd ((I + k) / 8) (.int .u8 (byteUp c W (I + k) ((I + k) / 8) : Nat)) (by
         unfold bts
         rw [List.getElem?_map, hrg]
         have := byteUp_lt c W (I + k) ((I + k) / 8)
         simp; omega)
        cases e'
        simpa using h1
       have f1 : wr.frozen? ⟨g, (I + k) / 8, none⟩ = false := hO3.out.frozen rfl
       generalize I + k = m at *
       generalize byteUp c W m (m / 8) = q at *
       by_cases hb1 : bitN x k = 1
       ·have hc1 : (((x : Int) / 2 ^ k).tmod 2 == 1) = true := by
         unfold bitN at hb1
         have h2 : ((x / 2 ^ k : Nat) : Int) % 2 = 1 := by omega
         rw [shr_cast, Int.tmod_eq_emod_of_nonneg (Int.natCast_nonneg _), h2]; rfl
        go_wp2_with fail
        have HST : Hid (Mine.Own (wr.setCell ⟨g, m / 8, none⟩ (.int .u8 (((q : Int) + 2 ^ (m % 8)) % 256))) 5 1 (some ⟨g, 0, none⟩) M M (bts (rowUp c W (m + 1)))) := Hi (by
         have h1 := hO3.out.store (m / 8) (.int .u8 (((q : Int) + 2 ^ (m % 8)) % 256))
         have h2 : bts (rowUp c W (m + 1)) = (bts (rowUp c W m)).set (m / 8) (.int .u8 (((q : Int) + 2 ^ (m % 8)) % 256)) := by
          rw [HSET.out, hb1, Nat.one_mul]
          unfold bts
          rw [List.map_set]
          have h3 : (((UInt8.ofNat (q + 2 ^ (m % 8))).toNat : Nat) : Int) = ((q : Int) + 2 ^ (m % 8)) % 256 := by
           rw [UInt8.toNat_ofNat']
           push_cast
           rfl
          rw [h3]
         rw [h2]
         exact h1)
        have HMS : Hid (Mod (fun b => b = g) wq (wr.setCell ⟨g, m / 8, none⟩ (.int .u8 (((q : Int) + 2 ^ (m % 8)) % 256)))) := Hi (hM3.out.setCell (p := ⟨g, m / 8, none⟩) (fun _ => rfl) _)
        go_roundw
        case rel => exact ⟨k + 1, by go_num, hlk, by rw [HK1.out]; exact HST, HMS⟩
        case measure => simp [intOf]; omega
       ·have hb0 : bitN x k = 0 := by have := bitN_lt x k; omega
        have hc1 : (((x : Int) / 2 ^ k).tmod 2 == 1) = false := by
         unfold bitN at hb0
         have h2 : ((x / 2 ^ k : Nat) : Int) % 2 = 0 := by omega
         rw [shr_cast, Int.tmod_eq_emod_of_nonneg (Int.natCast_nonneg _), h2]; rfl
        go_wp2_with fail
        go_roundw
        case rel => exact ⟨k + 1, by go_num, hlk, by rw [HK1.out, HSAME.out hb0]; exact hO3, hM3⟩
        case measure => simp [intOf]; omega
      ·obtain rfl : k = W := by omega
       go_wp2_with fail
       go_roundw
       case rel => exact ⟨i + 1, by go_num, hlt, by rw [HI1.out]; exact hO3, Hi (hM.out.trans hM3.out)⟩
       case measure => simp [intOf]; omega
    ·obtain rfl : i = c.length := by omega
     rw [← HN.out] at hO
     have hb1 : BOwn w wr (some ⟨w.heap.size, 0, none⟩) 1 [UInt8.ofNat W] := by
      have h1 := HO1.out
      refine ⟨h1.own.mod hM.out (fun b hb e => by cases hb; exact HG0.out e), h1.fr, h1.md.step hM.out (fun b hb e => by have := HG.out; omega)⟩
     have hrl : (rowUp c W N).length = M := by rw [rowUp_len, ← HN.out, HM.out]
     have HB1 := Hi hb1; have HRL := Hi hrl
     clear hb1 hrl
     go_wp2_with (at_builtin; refine wpL_append rfl (.tmp 75) (.tmp 76) 23 23 rfl ti24 rfl HB1.out.own rfl (Src.ofRd ti24.ht M M hO.out.rd (by rw [bts_length, HRL.out, Nat.mul_one]) (bts_one _)) (by show (1 + M) * _ ≤ _; omega) (by show 1 + M ≤ _; unfold maxLen; omega) ?_; intro a6 c6 w6 hO6 hG6 _
                  have HO6 := Hi (HB1.out.app hG6 hO6 rfl (by rw [HRL.out]; rfl)); clear hO6 hG6)
     go_ret
     have e : layK c = [UInt8.ofNat W] ++ rowUp c W N := by rw [HLK.out, ← HN.out]; rfl
     exact ⟨a6, c6, by rw [e, List.length_append, HRL.out]; rfl, by rw [e]; exact HO6.out⟩
end Go.Proofs.YtjoiaejbahdjkaaGreat
