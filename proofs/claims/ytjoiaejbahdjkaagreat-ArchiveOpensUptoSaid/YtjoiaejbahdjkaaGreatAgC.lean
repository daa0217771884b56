/-
  An append to a full list, whoever it belongs to.
-/
import Derived.Test.YtjoiaejbahdjkaaGreatOrd
import Derived.Test.YtjoiaejbahdjkaaGreatCqF
import Derived.Test.YtjoiaejbahdjkaaGreatAgA
import Derived.Test.YtjoiaejbahdjkaaGreatInsK
import Derived.Test.YtjoiaejbahdjkaaGreatCrc2
namespace Go.Mine
open Go Go.RowKit
section
variable {P : Program} {w : World}
theorem run_append_full {t tx ty e : TypeId} {k bytes : Nat} (ti : TI P t e k bytes) {a : Option Addr} {n : Nat} {xs : List Value} (ha : (a = none ∧ n = 0) ∨ ∃ b, a = some ⟨b, 0, none⟩)
 (h : Rd w a xs) (hxl : xs.length = n * k)
 {x : Value} {m : Nat} {news : List Value} (hs : Src P k tx x m news w) (hm : 0 < m) (hb : (n + m) * bytes ≤ 140737488355328) (h63 : n + m ≤ maxLen) :
 ∃ g c' w', (Builtin.append_ #[t, tx] ty #[.slice a n n, x]).run P w = .ok (.slice (some ⟨g, 0, none⟩) (n + m) c') w' ∧ Own w' e k (some ⟨g, 0, none⟩) (n + m) c' (xs ++ news) ∧
  Mod (fun _ => False) w w' ∧ w.heap.size ≤ g := by
 rcases ha with ⟨rfl, rfl⟩ | ⟨b, rfl⟩
 ·obtain rfl : xs = [] := List.eq_nil_of_length_eq_zero (by simpa using hxl)
  obtain ⟨a', c', w', hr, h2, h3, h4, h5⟩ := run_append_mine (ty := ty) ti (Own.nil w e k) hs hb h63
  obtain ⟨g, rfl⟩ := h2.atHead (by omega)
  refine ⟨g, c', w', hr, h2, h3.mono (fun _ _ e => by simp at e), ?_⟩
  rcases h4 with e | ⟨b, e, hb⟩
  ·simp at e
  ·cases e; exact hb
 obtain ⟨i, z, hi, hz, rfl, rfl, hzs⟩ := ti.ex
 have hlen : (xs ++ news).length = (n + m) * i.size := by rw [List.length_append, hxl, hs.newsLen, Nat.add_mul]
 have hnew : n + m ≤ 9223372036854775807 := by unfold maxLen at h63; omega
 have holds : ∀ j u, xs[j]? = some u → w.drew.cell? ((⟨b, 0, none⟩ : Addr).add j) = some u := fun j u hu => by
  have hadd : (⟨b, 0, none⟩ : Addr).add j = ⟨b, 0 + j, none⟩ := by unfold Addr.add; split <;> simp_all
  rw [hadd]
  obtain ⟨b', o', e', hc⟩ := h j u hu
  cases e'
  simpa using hc
 have hold := run_firstCells_some (P := P) w.drew i.size n ⟨b, 0, none⟩ n n xs hxl holds
 have hr := run_append_grow_src (P := P) w t tx ty e i z ti.ht hi hz (some ⟨b, 0, none⟩) n n xs hold x m news hs (by omega) (by omega) (growslice_fits (by omega) hb)
 have hge := grownCap_ge w (n + m) n e
 have hcm : grownCap w (n + m) n e ≤ maxLen := grownCap_le_maxLen w (n + m) n e h63
 refine ⟨_, _, _, hr, ⟨hlen, .inr ⟨w.heap.size, _, rfl, heap_alloc_new w.drew _, hge, hcm, ?_, ?_⟩⟩, (Mod.refl _ w).drew.alloc _, Nat.le_refl _⟩
 ·simp only [Array.size_append, List.size_toArray, size_zeroCells, hzs, hlen, ← Nat.add_mul]
  congr 1
  omega
 ·simp only [Array.toList_append]
  rw [← hlen]
  exact List.take_left
theorem wpL_append_fullN {ops : Array Oper} {rest : List Oper} {o : Oper} {A : Act} {Q : Exit → Act → World → Prop} (hgd : o.guard = none) (s x : Operand) (t : TypeId)
 (ho : o.op = .call { callee := .builtin .append, args := #[s, x], argTypes := #[t, t] }) {e : TypeId} {k bytes : Nat} (ti : TI P t e k bytes)
 {a : Option Addr} {n : Nat} {xs : List Value} (hs : A.eval s = .slice a n n) (ha : (a = none ∧ n = 0) ∨ ∃ b, a = some ⟨b, 0, none⟩) (h : Rd w a xs) (hxl : xs.length = n * k)
 {m m' gx : Nat} {us : List Value} (hx : A.eval x = .slice (some ⟨gx, 0, none⟩) m m') (hu : us.length = m * k) (h1 : us.all Value.oneCell' = true) (hm : 0 < m)
 (hb : (n + m) * bytes ≤ 140737488355328) (h63 : n + m ≤ maxLen)
 (hk : ∀ g c' w', Own w' e k (some ⟨g, 0, none⟩) (n + m) c' (xs ++ us) → Mod (fun _ => False) w w' → w.heap.size ≤ g →
  wpList P ops Q rest (A.put o.dst (.slice (some ⟨g, 0, none⟩) (n + m) c')) w') (hgx : gx = w.heap.size := by first | rfl | simp) : wpList P ops Q (o :: rest) A (w.alloc (.cells us.toArray e)) := by
 subst hgx
 refine wpList_plain hgd fun _ hK => ?_
 have hm1 : Mod (fun _ => False) w (w.alloc (.cells us.toArray e)) := (Mod.refl _ w).alloc _
 obtain ⟨g, c', w', hr, h2, h3, h4⟩ := run_append_full (ty := o.type) ti ha (h.mod hm1 (fun _ _ => id)) hxl (Src.ofRd ti.ht m m' (Rd.news w us e) hu (by simpa using h1)) hm hb h63
 unfold Oper.wp execOp
 simp only [ho, resolve, invoke, builtin, Sem.run_bind, Sem.run_pure, Result.andThen_ok, List.map_toArray, List.map_cons, List.map_nil, hs, hx, hr]
 exact hK _ _ (hk g c' w' h2 (hm1.trans h3) (Nat.le_trans hm1.size h4))
end
end Go.Mine
/-
  Law 26: bytes lent, kept, written over; the same bytes.
-/
namespace Go.Proofs.YtjoiaejbahdjkaaGreat
open Go Go.RowKit Go.Mine
set_option linter.unusedVariables false
set_option maxHeartbeats 8000000
set_option maxRecDepth 100000
theorem take_snoc_neA {l1 l2 : List UInt8} (k : Nat) (h : k < l1.length) (h2 : k < l2.length) (hne : l1[k].toNat ≠ l2[k].toNat) : l1 ≠ l2 := by
 rintro rfl; exact hne rfl
theorem ret_boolA {a b : Bool} (h : a = b) : Ending.returned (.bool a) = .returned (.bool b) := by rw [h]
theorem same26_any (a1 a2 : Option Addr) (d1 d2 : Nat) (l1 l2 : List UInt8) (w : World) (h1 : Rd w a1 (bts l1)) (h2 : Rd w a2 (bts l2)) (hl1 : l1.length < 2 ^ 40) (hl2 : l2.length < 2 ^ 40) :
 Calls Tryz.prog 10 #[.slice a1 l1.length d1, .slice a2 l2.length d2] w fun e w' => e = .returned (.bool (decide (l1 = l2))) ∧ Mod (fun _ => False) w w' := by
 have H1 := Hi h1; have H2 := Hi h2
 clear h1 h2
 by_cases hlen : l1.length = l2.length
 ·have hle : ((l1.length : Int) != (l2.length : Int)) = false := by simp; omega
  have HLEN := Hi hlen
  clear hlen
  go_enter Tryz.func10, Tryz.ntmps10
  go_wp2_with fail
  go_loopw [5] (fun iv wr => ∃ k : Nat, iv = .int .i64 k ∧ k ≤ l1.length ∧ Hid (l1.take k = l2.take k) ∧ Hid (Mod (fun _ => False) w wr)) (fun iv _ => l1.length - (intOf iv).toNat)
  case atStart => exact ⟨0, rfl, Nat.zero_le _, Hi rfl, Hi (Mod.refl _ _)⟩
  case round =>
   obtain ⟨k, rfl, hk, hT, hM⟩ := hrel
   by_cases hlt : k < l1.length
   ·have hlt2 : k < l2.length := by rw [← HLEN.out]; exact hlt
    obtain ⟨b1, o1, rfl, x0⟩ := byte_cell (H1.out.mod hM.out (fun _ _ => id)) hlt
    obtain ⟨b2, o2, rfl, y0⟩ := byte_cell (H2.out.mod hM.out (fun _ _ => id)) hlt2
    by_cases heq : l1[k].toNat = l2[k].toNat
    ·have HT2 : Hid (l1.take (k + 1) = l2.take (k + 1)) := Hi (by
      rw [List.take_succ_eq_append_getElem hlt, List.take_succ_eq_append_getElem hlt2, hT.out, UInt8.toNat_inj.1 heq])
     rw [heq] at x0
     clear heq
     generalize l2[k].toNat = q at *
     go_wp2_with fail
     refine wp_region_ord (fun w' => w'.cell? ⟨b1, o1 + k, none⟩ = some (.int .u8 (q : Nat)) ∧ w'.cell? ⟨b2, o2 + k, none⟩ = some (.int .u8 (q : Nat))) [(0, 0), (0, 1), (0, 2), (1, 3), (0, 4), (0, 5), (0, 6), (1, 7), (0, 8)] (by kernel_rfl) (by kernel_rfl) ?_
     go_wp2_with (first
      |(refine ord_pure rfl rfl rfl (fun K hK => ?_); go_big_quiet_op; refine hK _ ?_; clear hK K)
      |(refine ord_held rfl rfl rfl (⟨x0, y0⟩) (fun K hK => ?_); apply Exists.intro; refine ⟨fun w' hs => ?_, hK _ ?_⟩; (revert hs; dsimp only; (try simp only [and_imp]); intros; go_simp; rfl); clear hK K)
      |(refine ord_nil ?_))
     go_roundw
     case rel => exact ⟨k + 1, by go_num, hlt, HT2, Hi hM.out.drew⟩
     case measure => simp [intOf]; omega
    ·have HNE := Hi (take_snoc_neA k hlt hlt2 heq)
     generalize l1[k].toNat = p at *
     generalize l2[k].toNat = q at *
     have hpq : ((p : Int) != (q : Int)) = true := by simp; omega
     clear heq
     go_wp2_with fail
     refine wp_region_ord (fun w' => w'.cell? ⟨b1, o1 + k, none⟩ = some (.int .u8 (p : Nat)) ∧ w'.cell? ⟨b2, o2 + k, none⟩ = some (.int .u8 (q : Nat))) [(0, 0), (0, 1), (0, 2), (1, 3), (0, 4), (0, 5), (0, 6), (1, 7), (0, 8)] (by kernel_rfl) (by kernel_rfl) ?_
     go_wp2_with (first
      |(refine ord_pure rfl rfl rfl (fun K hK => ?_); go_big_quiet_op; refine hK _ ?_; clear hK K)
      |(refine ord_held rfl rfl rfl (⟨x0, y0⟩) (fun K hK => ?_); apply Exists.intro; refine ⟨fun w' hs => ?_, hK _ ?_⟩; (revert hs; dsimp only; (try simp only [and_imp]); intros; go_simp; rfl); clear hK K)
      |(refine ord_nil ?_))
     go_ret
     exact ⟨ret_boolA (decide_eq_false HNE.out).symm, hM.out.drew⟩
   ·obtain rfl : k = l1.length := by omega
    have HEQ : Hid (l1 = l2) := Hi (by
     have h0 := hT.out
     rw [List.take_length, HLEN.out, List.take_length] at h0
     exact h0)
    clear hT
    go_wp2_with fail
    go_ret
    exact ⟨ret_boolA (decide_eq_true HEQ.out).symm, hM.out⟩
 ·have hle : ((l1.length : Int) != (l2.length : Int)) = true := by simp; omega
  have HNE : Hid (l1 ≠ l2) := Hi (fun e => hlen (by rw [e]))
  clear hlen
  go_enter Tryz.func10, Tryz.ntmps10
  go_wp2_with fail
  go_ret
  exact ⟨ret_boolA (decide_eq_false HNE.out).symm, Mod.refl _ _⟩
theorem sameR26_any (a1 a2 : Option Addr) (d1 d2 : Nat) (l1 l2 : List UInt8) (w : World) (h1 : Rd w a1 (bts l1)) (h2 : Rd w a2 (bts l2)) (hl1 : l1.length < 2 ^ 40) (hl2 : l2.length < 2 ^ 40) :
 Calls Tryz.prog 26 #[.slice a1 l1.length d1, .slice a2 l2.length d2] w fun e w' => e = .returned (.bool (decide (l1 = l2))) ∧ Mod (fun _ => False) w w' := by
 have H1 := Hi h1; have H2 := Hi h2
 clear h1 h2
 by_cases hlen : l1.length = l2.length
 ·have hle : ((l1.length : Int) != (l2.length : Int)) = false := by simp; omega
  have HLEN := Hi hlen
  clear hlen
  go_enter Tryz.func26, Tryz.ntmps26
  go_wp2_with fail
  go_loopw [5] (fun iv wr => ∃ k : Nat, iv = .int .i64 k ∧ k ≤ l1.length ∧ Hid (l1.take k = l2.take k) ∧ Hid (Mod (fun _ => False) w wr)) (fun iv _ => l1.length - (intOf iv).toNat)
  case atStart => exact ⟨0, rfl, Nat.zero_le _, Hi rfl, Hi (Mod.refl _ _)⟩
  case round =>
   obtain ⟨k, rfl, hk, hT, hM⟩ := hrel
   by_cases hlt : k < l1.length
   ·have hlt2 : k < l2.length := by rw [← HLEN.out]; exact hlt
    obtain ⟨b1, o1, rfl, x0⟩ := byte_cell (H1.out.mod hM.out (fun _ _ => id)) hlt
    obtain ⟨b2, o2, rfl, y0⟩ := byte_cell (H2.out.mod hM.out (fun _ _ => id)) hlt2
    by_cases heq : l1[k].toNat = l2[k].toNat
    ·have HT2 : Hid (l1.take (k + 1) = l2.take (k + 1)) := Hi (by
      rw [List.take_succ_eq_append_getElem hlt, List.take_succ_eq_append_getElem hlt2, hT.out, UInt8.toNat_inj.1 heq])
     rw [heq] at x0
     clear heq
     generalize l2[k].toNat = q at *
     go_wp2_with fail
     refine wp_region_ord (fun w' => w'.cell? ⟨b1, o1 + k, none⟩ = some (.int .u8 (q : Nat)) ∧ w'.cell? ⟨b2, o2 + k, none⟩ = some (.int .u8 (q : Nat))) [(0, 0), (0, 1), (0, 2), (1, 3), (0, 4), (0, 5), (0, 6), (1, 7), (0, 8)] (by kernel_rfl) (by kernel_rfl) ?_
     go_wp2_with (first
      |(refine ord_pure rfl rfl rfl (fun K hK => ?_); go_big_quiet_op; refine hK _ ?_; clear hK K)
      |(refine ord_held rfl rfl rfl (⟨x0, y0⟩) (fun K hK => ?_); apply Exists.intro; refine ⟨fun w' hs => ?_, hK _ ?_⟩; (revert hs; dsimp only; (try simp only [and_imp]); intros; go_simp; rfl); clear hK K)
      |(refine ord_nil ?_))
     go_roundw
     case rel => exact ⟨k + 1, by go_num, hlt, HT2, Hi hM.out.drew⟩
     case measure => simp [intOf]; omega
    ·have HNE := Hi (take_snoc_neA k hlt hlt2 heq)
     generalize l1[k].toNat = p at *
     generalize l2[k].toNat = q at *
     have hpq : ((p : Int) != (q : Int)) = true := by simp; omega
     clear heq
     go_wp2_with fail
     refine wp_region_ord (fun w' => w'.cell? ⟨b1, o1 + k, none⟩ = some (.int .u8 (p : Nat)) ∧ w'.cell? ⟨b2, o2 + k, none⟩ = some (.int .u8 (q : Nat))) [(0, 0), (0, 1), (0, 2), (1, 3), (0, 4), (0, 5), (0, 6), (1, 7), (0, 8)] (by kernel_rfl) (by kernel_rfl) ?_
     go_wp2_with (first
      |(refine ord_pure rfl rfl rfl (fun K hK => ?_); go_big_quiet_op; refine hK _ ?_; clear hK K)
      |(refine ord_held rfl rfl rfl (⟨x0, y0⟩) (fun K hK => ?_); apply Exists.intro; refine ⟨fun w' hs => ?_, hK _ ?_⟩; (revert hs; dsimp only; (try simp only [and_imp]); intros; go_simp; rfl); clear hK K)
      |(refine ord_nil ?_))
     go_ret
     exact ⟨ret_boolA (decide_eq_false HNE.out).symm, hM.out.drew⟩
   ·obtain rfl : k = l1.length := by omega
    have HEQ : Hid (l1 = l2) := Hi (by
     have h0 := hT.out
     rw [List.take_length, HLEN.out, List.take_length] at h0
     exact h0)
    clear hT
    go_wp2_with fail
    go_ret
    exact ⟨ret_boolA (decide_eq_true HEQ.out).symm, hM.out⟩
 ·have hle : ((l1.length : Int) != (l2.length : Int)) = true := by simp; omega
  have HNE : Hid (l1 ≠ l2) := Hi (fun e => hlen (by rw [e]))
  clear hlen
  go_enter Tryz.func26, Tryz.ntmps26
  go_wp2_with fail
  go_ret
  exact ⟨ret_boolA (decide_eq_false HNE.out).symm, Mod.refl _ _⟩
def LentA (w : World) (g c : Nat) (l : List UInt8) : Prop := Mine.Own w 5 1 (some ⟨g, 0, none⟩) (l.length + 2) c (bts (l ++ [201, 202])) ∧ l.length + 2 ≤ c
theorem LentA.rd {w : World} {g c : Nat} {l : List UInt8} (h : LentA w g c l) : Rd w (some ⟨g, 0, none⟩) (bts l) := by
 have := h.1.rd.take l.length
 rw [bts_append, List.take_left' (by simp)] at this
 exact this
theorem LentA.mod {S : Nat → Prop} {w w' : World} {g c : Nat} {l : List UInt8} (h : LentA w g c l) (m : Mod S w w') (hs : ¬ S g) : LentA w' g c l := by
 refine ⟨h.1.mod m fun b hb e => hs ?_, h.2⟩
 have hg : g = b := by simpa [blk] using hb
 rw [hg]; exact e
theorem LentA.mark {w : World} {g c : Nat} {l : List UInt8} (h : LentA w g c l) : w.cell? ⟨g, l.length, none⟩ = some (.int .u8 201) ∧ w.cell? ⟨g, l.length + 1, none⟩ = some (.int .u8 202) := by
 constructor
 ·obtain ⟨b, o, e, hc⟩ := h.1.rd l.length (.int .u8 201) (by simp [bts])
  cases e
  simpa using hc
 ·obtain ⟨b, o, e, hc⟩ := h.1.rd (l.length + 1) (.int .u8 202) (by simp [bts])
  cases e
  simpa using hc
theorem lent26_any (a : Option Addr) (c : Nat) (l : List UInt8) (w : World) (hr : Rd w a (bts l)) (hn : l.length < 2 ^ 40) :
 Calls Tryz.prog 6 #[.slice a l.length c] w fun e w' => ∃ g c', e = .returned (.slice (some ⟨g, 0, none⟩) l.length c') ∧ LentA w' g c' l ∧ Mod (fun _ => False) w w' ∧ w.heap.size ≤ g := by
 have HR := Hi hr
 clear hr
 go_enter Tryz.func6, Tryz.ntmps6
 go_wp2_with (first
  |(at_builtin; refine wpL_append0 rfl (.tmp 4) (.tmp 5) 23 23 rfl ti24 rfl rfl (Src.ofRd ti24.ht l.length c HR.out (by simp) (bts_one l)) (by omega) (by unfold maxLen; omega) ?_; intro a2 c2 w2 hO2 hM2 hF2 _
    have HO2 := Hi hO2; have HM2 := Hi hM2; have HF2 := Hi hF2; clear hO2 hM2 hF2)
  |(at_builtin; refine wpL_appendN (us := [_, _]) rfl (.tmp 7) (.tmp 8) 23 rfl ti24 rfl HO2.out rfl rfl rfl (by omega) (by unfold maxLen; omega) ?_; intro a3 c3 w3 hO3 hG3 _
    obtain ⟨g3, rfl⟩ := hO3.atHead (by omega)
    have hc3 : l.length + 2 ≤ c3 := by
     obtain ⟨_, _, _, _, h, _⟩ := hO3.2.resolve_left (by simp)
     exact h
    have HO3 := Hi hO3; have HG3 := Hi hG3; clear hO3 hG3))
 go_ret
 refine ⟨g3, c3, rfl, ⟨by rw [bts_append]; exact HO3.out, hc3⟩, HM2.out.step HG3.out.mod (fun i hi hs => by have := HF2.out i hs; omega), ?_⟩
 rcases HG3.out.pos with e | ⟨b, e, hb⟩
 ·exact HF2.out g3 (by rw [← e]; rfl)
 ·simp at e; have := HM2.out.size; omega
theorem kept26_any (g c1 : Nat) (a2 : Option Addr) (c2 : Nat) (l : List UInt8) (w : World) (h : LentA w g c1 l) (hr : Rd w a2 (bts l)) (hn : l.length < 2 ^ 40) :
 Calls Tryz.prog 12 #[.slice (some ⟨g, 0, none⟩) l.length c1, .slice a2 l.length c2] w fun e w' => e = .returned (.bool true) ∧ Mod (fun _ => False) w w' := by
 have HS : Hid (Calls Tryz.prog 10 #[.slice (some ⟨g, 0, none⟩) l.length c1, .slice a2 l.length c2] w fun e w' => e = .returned (.bool true) ∧ Mod (fun _ => False) w w') := Hi ((same26_any (some ⟨g, 0, none⟩) a2 c1 c2 l l w h.rd hr hn hn).mono (by
  rintro e w' ⟨rfl, h⟩
  exact ⟨ret_boolA (by simp), h⟩))
 have HL := Hi h
 have hc := h.2
 clear h hr
 obtain ⟨n, hnn⟩ : ∃ n, n = l.length := ⟨_, rfl⟩
 have hk2 : ((n : Int) + 2).toNat = n + 2 := by omega
 have hk1 : ((n : Int) + 1).toNat = n + 1 := by omega
 rw [← hnn] at HS hc hn ⊢
 have HN := Hi hnn
 clear hnn
 go_enter Tryz.func12, Tryz.ntmps12
 go_wp2_with fail
 refine HS.out.mono ?_
 rintro e w1 ⟨rfl, hm⟩
 obtain ⟨m1, m2⟩ := (HL.out.mod hm id).mark
 rw [← HN.out] at m1 m2
 have HM := Hi hm
 clear hm HS
 go_wp2_with fail
 go_ret
 exact ⟨rfl, HM.out⟩
def Wr (w : World) (g : Nat) (l : List UInt8) : Prop := ∃ cur, w.heap[g]? = some (.cells cur 5 (0, 0)) ∧ cur.toList.take l.length = bts l
def WrOk (w : World) (a : Option Addr) (c : Nat) (l : List UInt8) : Prop := (∃ g, a = some ⟨g, 0, none⟩ ∧ Wr w g l ∧ c = l.length) ∨ Mine.Own w 5 1 a l.length c (bts l)
theorem Wr.rd {w : World} {g : Nat} {l : List UInt8} (h : Wr w g l) : Rd w (some ⟨g, 0, none⟩) (bts l) := by
 obtain ⟨cur, h1, h2⟩ := h
 intro i u hu
 rw [← h2, List.getElem?_take] at hu
 split at hu
 ·refine ⟨g, 0, rfl, ?_⟩
  rw [Nat.zero_add]
  exact cell_at h1 (by rw [← Array.getElem?_toList]; exact hu)
 ·cases hu
theorem WrOk.rd {w : World} {a : Option Addr} {c : Nat} {l : List UInt8} (h : WrOk w a c l) : Rd w a (bts l) := by
 rcases h with ⟨g, rfl, h, _⟩ | h
 ·exact h.rd
 ·exact h.rd
theorem Wr.mod {S : Nat → Prop} {w w' : World} {g : Nat} {l : List UInt8} (h : Wr w g l) (m : Mod S w w') (hs : ¬ S g) : Wr w' g l := by
 obtain ⟨cur, h1, h2⟩ := h
 exact ⟨cur, m.at h1 hs, h2⟩
theorem WrOk.mod {S : Nat → Prop} {w w' : World} {a : Option Addr} {c : Nat} {l : List UInt8} (h : WrOk w a c l) (m : Mod S w w') (hs : ∀ b, blk a = some b → ¬ S b) : WrOk w' a c l := by
 rcases h with ⟨g, rfl, h, hc⟩ | h
 ·exact .inl ⟨g, rfl, h.mod m (hs g rfl), hc⟩
 ·exact .inr (h.mod m hs)
theorem WrOk.lt {w : World} {a : Option Addr} {c : Nat} {l : List UInt8} (h : WrOk w a c l) : ∀ b, blk a = some b → b < w.heap.size := by
 rcases h with ⟨g, rfl, ⟨cur, h1, _⟩, hc⟩ | h
 ·rintro b hb
  have hg : g = b := by simpa [blk] using hb
  subst hg
  exact (Array.getElem?_eq_some_iff.1 h1).1
 ·exact h.lt
theorem WrOk.put {w : World} {a : Option Addr} {c : Nat} {l : List UInt8} (h : WrOk w a c l) {j : Nat} (hj : j < l.length) : ∃ g, a = some ⟨g, 0, none⟩ ∧ w.cell? ⟨g, j, none⟩ = some (.int .u8 l[j].toNat) ∧ w.frozen? ⟨g, j, none⟩ = false ∧
 ∀ y : UInt8, WrOk (w.setCell ⟨g, j, none⟩ (.int .u8 y.toNat)) a c (l.set j y) := by
 have hcell : ∀ g, a = some ⟨g, 0, none⟩ → w.cell? ⟨g, j, none⟩ = some (.int .u8 l[j].toNat) := fun g e => by
  obtain ⟨b, o, e2, hc⟩ := h.rd j (.int .u8 l[j].toNat) (by simp [bts, hj])
  rw [e] at e2
  cases e2
  simpa using hc
 rcases h with ⟨g, rfl, ⟨cur, h1, h2⟩, hc⟩ | h
 ·refine ⟨g, rfl, hcell g rfl, frozen_at h1, fun y => .inl ⟨g, rfl, ⟨cur.setIfInBounds j (.int .u8 y.toNat), heap_setCell_at _ h1, ?_⟩, by rw [List.length_set]; exact hc⟩⟩
  rw [List.length_set, Array.toList_setIfInBounds, List.take_set, h2]
  simp [bts, List.map_set]
 ·obtain ⟨g, rfl⟩ := h.atHead (by omega)
  refine ⟨g, rfl, hcell g rfl, h.frozen rfl, fun y => .inr ?_⟩
  have := h.store j (.int .u8 y.toNat)
  rw [List.length_set]
  have e : bts (l.set j y) = (bts l).set j (.int .u8 y.toNat) := by simp [bts, List.map_set]
  rw [e]
  exact this
theorem over26_any (a : Option Addr) (c : Nat) (l : List UInt8) (w : World) (h : WrOk w a c l) (hl : l.length < 2 ^ 39) :
 Calls Tryz.prog 11 #[.slice a l.length c] w fun e w' => e = .returned (.tuple #[]) ∧ Mod (fun b => blk a = some b) w w' := by
 have H := Hi h
 clear h
 obtain ⟨n, hn⟩ : ∃ n, n = l.length := ⟨_, rfl⟩
 have HN := Hi hn
 rw [← hn] at hl ⊢
 clear hn
 go_enter Tryz.func11, Tryz.ntmps11
 go_wp2_with fail
 go_loopw [2] (fun iv wr => ∃ (j : Nat) (ys : List UInt8), j ≤ n ∧ iv = .int .i64 j ∧ Hid (n = ys.length) ∧ Hid (WrOk wr a c ys) ∧ Hid (Mod (fun b => blk a = some b) w wr)) (fun iv _ => n - (intOf iv).toNat)
 case atStart => exact ⟨0, l, Nat.zero_le _, rfl, HN, H, Hi (Mod.refl _ _)⟩
 case round =>
  obtain ⟨j, ys, hj, rfl, hyl, hW, hM⟩ := hrel
  by_cases hjl : j < n
  ·have hjy : j < ys.length := by rw [← hyl.out]; exact hjl
   obtain ⟨g, ha, hcj, hfj, hst⟩ := hW.out.put hjy
   have HST := Hi hst
   clear hst
   subst ha
   generalize hy : ys[j] = y at *
   have HY := Hi hy
   clear hy
   go_wp2_with fail
   go_roundw
   case rel =>
    have e8 : (((y.toNat : Int) + 91) % 256) = ((y + 91).toNat : Int) := by rw [UInt8.toNat_add]; simp
    rw [e8]
    exact ⟨j + 1, ys.set j (y + 91), hjl, by go_num, Hi (by rw [List.length_set]; exact hyl.out), Hi (HST.out (y + 91)), Hi (hM.out.setCell (p := ⟨g, j, none⟩) (fun _ => rfl) _)⟩
   case measure => simp [intOf]; omega
  ·obtain rfl : n = j := by omega
   have HZ : Hid (WrOk wr a c ys ∧ n = ys.length) := Hi ⟨hW.out, hyl.out⟩
   clear hW hyl H HN
   rename World => w0
   go_wp2_with fail
   go_loopw [3, 0] (fun iv pv wr => ∃ (k : Nat) (a' : Option Addr) (c' : Nat) (xs : List UInt8), k ≤ 40 ∧ iv = .int .i64 k ∧ pv = .slice a' xs.length c' ∧ xs.length ≤ n + k ∧ Hid (WrOk wr a' c' xs) ∧ Hid (Mod (fun b => blk a = some b) w0 wr) ∧ Hid (∀ b, blk a' = some b → blk a = some b ∨ w0.heap.size ≤ b)) (fun iv _ _ => 40 - (intOf iv).toNat)
   case atStart =>
    refine ⟨0, a, c, ys, by omega, rfl, ?_, ?_, Hi HZ.out.1, Hi (Mod.refl _ _), Hi (fun b hb => .inl hb)⟩
    ·rw [← HZ.out.2]
    ·have := HZ.out.2; omega
   case round =>
    obtain ⟨k, a', c', xs, hk, rfl, rfl, hxn, hX, hM2, hA⟩ := hrel
    by_cases hk40 : k < 40
    ·have hXo := hX.out
     clear hX
     obtain ⟨m, hm⟩ : ∃ m, m = xs.length := ⟨_, rfl⟩
     rw [← hm] at hxn ⊢
     have HM := Hi hm
     clear hm
     rcases hXo with ⟨g, rfl, hW, hc⟩ | hO
     ·have HR := Hi hW.rd
      rw [← HM.out] at hc
      subst hc
      have HXL : Hid ((bts xs).length = c' * 1) := Hi (by rw [HM.out]; simp [bts])
      clear hW
      go_wp2_with (first
       |(at_builtin; refine wpL_append_fullN (us := [_]) rfl (.tmp 22) (.tmp 23) 23 rfl ti24 rfl (.inr ⟨_, rfl⟩) HR.out HXL.out rfl rfl rfl (by omega) (by omega) (by unfold maxLen; omega) ?_; intro g2 c2 w2 hO2 hM3 hg2
         have HO2 := Hi hO2; have HM3 := Hi hM3; have HG2 := Hi hg2; clear hO2 hM3 hg2))
      go_roundw
      case rel =>
       have hl2 : (xs ++ [77]).length = c' + 1 := by rw [List.length_append, ← HM.out]; rfl
       refine ⟨k + 1, some ⟨g2, 0, none⟩, c2, xs ++ [77], hk40, by go_num, by rw [hl2], by rw [hl2]; omega, Hi (.inr ?_), Hi (hM2.out.step HM3.out fun _ _ e => e.elim), Hi (fun b hb => .inr ?_)⟩
       ·rw [hl2, bts_append]; exact HO2.out
       ·have hb' : g2 = b := by simpa [blk] using hb
        have h1 := hM2.out.size
        have h2 := HG2.out
        omega
      case measure => simp [intOf]; omega
     ·rw [← HM.out] at hO
      have HO := Hi hO
      clear hO
      go_wp2_with (first
       |(at_builtin; refine wpL_appendN (us := [_]) rfl (.tmp 22) (.tmp 23) 23 rfl ti24 rfl HO.out rfl rfl rfl (by omega) (by unfold maxLen; omega) ?_; intro a2 c2 w2 hO2 hG3 _
         have HO2 := Hi hO2; have HG3 := Hi hG3; clear hO2 hG3))
      go_roundw
      case rel =>
       have hl2 : (xs ++ [77]).length = m + 1 := by rw [List.length_append, ← HM.out]; rfl
       refine ⟨k + 1, a2, c2, xs ++ [77], hk40, by go_num, by rw [hl2], by rw [hl2]; omega, Hi (.inr ?_), Hi (hM2.out.step HG3.out.mod fun b hb e => ?_), Hi (fun b hb => ?_)⟩
       ·rw [hl2, bts_append]; exact HO2.out
       ·rcases hA.out b e with h | h
        ·exact h
        ·omega
       ·rcases HG3.out.pos with e | ⟨b2, e, h2⟩
        ·rw [e] at hb; exact hA.out b hb
        ·rw [e] at hb
         have hb' : b2 = b := by simpa [blk] using hb
         have h1 := hM2.out.size
         right; omega
      case measure => simp [intOf]; omega
    ·obtain rfl : k = 40 := by omega
     go_wp2_with fail
     go_end0
     exact ⟨rfl, hM.out.step hM2.out fun _ _ e => e⟩
theorem num26_any (k : Int) (w : World) : Calls Tryz.prog 9 #[.int .i64 k] w fun e w' => e = .returned (.int .i64 k) ∧ w = w' := by
 go_enter Tryz.func9, Tryz.ntmps9
 go_wp2
 go_ret
 exact ⟨rfl, rfl⟩
end Go.Proofs.YtjoiaejbahdjkaaGreat
/-
  slices.Concat of bytes, slices.Clip; a sum behind bytes; an archive's first bytes.
-/
namespace Go.Proofs.YtjoiaejbahdjkaaGreat
open Go Go.RowKit Go.Mine
set_option linter.unusedVariables false
set_option maxHeartbeats 8000000
set_option maxRecDepth 100000
theorem Own.cut {w : World} {e : TypeId} {k : Nat} {a : Option Addr} {n c : Nat} {xs : List Value} (h : Mine.Own w e k a n c xs) {m : Nat} (hm : m ≤ n) (hp : 0 < n) : Mine.Own w e k a m c (xs.take (m * k)) := by
 obtain ⟨h1, h2⟩ := h
 refine ⟨by rw [List.length_take, h1]; exact Nat.min_eq_left (Nat.mul_le_mul_right k hm), ?_⟩
 rcases h2 with ⟨_, h0, _⟩ | ⟨b, cur, e1, h3, h4, h5, h6, h7⟩
 ·omega
 ·refine .inr ⟨b, cur, e1, h3, by omega, h5, h6, ?_⟩
  rw [← h7, List.take_take, Nat.min_eq_left (Nat.mul_le_mul_right k hm)]
theorem growB_any (n : Nat) (w : World) (hn : n < 2 ^ 40) :
 Calls Tryz.prog 81 #[.slice none 0 0, .int .i64 n] w fun e w' => ∃ a c, e = .returned (.slice a 0 c) ∧ Mine.Own w' 5 1 a 0 c [] ∧ Mod (fun _ => False) w w' ∧ ∀ b, blk a = some b → w.heap.size ≤ b := by
 have e0 : decide ((n : Int) < 0) = false := decide_eq_false (by omega)
 by_cases h0 : n = 0
 ·subst h0
  go_enter Tryz.func81, Tryz.ntmps81
  go_wp2
  go_ret
  exact ⟨none, 0, rfl, Mine.Own.nil _ _ _, Mod.refl _ _, fun b hb => by cases hb⟩
 ·have e1 : decide ((0 : Int) < (n : Int)) = true := decide_eq_true (by omega)
  go_enter Tryz.func81, Tryz.ntmps81
  go_wp2_with (first
   |(at_builtin; refine wpL_appendZ (m := n) (N := n) rfl (.tmp 20) (.tmp 21) 3 rfl ti24 Tryz.underlying3 rfl (Rd.nil _ _) rfl rfl (by omega) (by omega) (by omega) (by omega) (by omega) (by unfold maxLen; omega) ?_; intro g c1 zs w1 hz hO1 hM1 hg1
     have HO1 := Hi hO1; have HM1 := Hi hM1; have HG1 := Hi hg1; have HZ := Hi hz; clear hO1 hM1 hg1 hz))
  go_ret
  refine ⟨some ⟨g, 0, none⟩, c1, rfl, ?_, HM1.out, fun b hb => by
   have hg : g = b := by simpa [blk] using hb
   rw [← hg]; exact HG1.out⟩
  have h := Own.cut HO1.out (Nat.zero_le n) (by omega)
  simpa using h
def catL (qs : List (Sl × List UInt8)) : List UInt8 := qs.flatMap (·.2)
structure HdsB (w : World) (a : Option Addr) (qs : List (Sl × List UInt8)) : Prop where
 rd : Rd w a (qs.map fun q => q.1.val)
 row : ∀ q ∈ qs, q.1.n = q.2.length ∧ Rd w q.1.a (bts q.2)
theorem HdsB.mod0 {w w' : World} {a : Option Addr} {qs : List (Sl × List UInt8)} (h : HdsB w a qs) (m : Mod (fun _ => False) w w') : HdsB w' a qs :=
 ⟨h.rd.mod m fun _ _ => id, fun q hq => ⟨(h.row q hq).1, (h.row q hq).2.mod m fun _ _ => id⟩⟩
theorem HdsB.get {w : World} {a : Option Addr} {qs : List (Sl × List UInt8)} (h : HdsB w a qs) {k : Nat} (hk : k < qs.length) : ∃ b o, a = some ⟨b, o, none⟩ ∧ w.cell? ⟨b, o + k, none⟩ = some (.slice qs[k].1.a qs[k].2.length qs[k].1.c) := by
 obtain ⟨b, o, e, hc⟩ := h.rd k qs[k].1.val (by simp [hk])
 refine ⟨b, o, e, ?_⟩
 rw [hc, ← (h.row _ (List.getElem_mem hk)).1]
 rfl
theorem cat_succ (qs : List (Sl × List UInt8)) {k : Nat} (hk : k < qs.length) : catL (qs.take (k + 1)) = catL (qs.take k) ++ qs[k].2 := by
 unfold catL
 rw [List.take_succ_eq_append_getElem hk, List.flatMap_append]
 simp
theorem cat_le (qs : List (Sl × List UInt8)) (k : Nat) : (catL (qs.take k)).length ≤ (catL qs).length := by
 have e : catL qs = catL (qs.take k) ++ catL (qs.drop k) := by unfold catL; rw [← List.flatMap_append, List.take_append_drop]
 rw [e, List.length_append]; omega
theorem concat_any (a : Option Addr) (c : Nat) (qs : List (Sl × List UInt8)) (w : World) (h : HdsB w a qs) (hl : (catL qs).length < 2 ^ 40) (hn : qs.length < 2 ^ 40) :
 Calls Tryz.prog 50 #[.slice a qs.length c] w fun e w' => ∃ b c', e = .returned (.slice b (catL qs).length c') ∧ Mine.Own w' 5 1 b (catL qs).length c' (bts (catL qs)) ∧ Mod (fun _ => False) w w' ∧ ∀ g, blk b = some g → w.heap.size ≤ g := by
 have H := Hi h
 clear h
 obtain ⟨N, hN⟩ : ∃ N, N = (catL qs).length := ⟨_, rfl⟩
 obtain ⟨n, hnn⟩ : ∃ n, n = qs.length := ⟨_, rfl⟩
 have HN := Hi hN; have HNN := Hi hnn
 rw [← hN] at hl ⊢
 rw [← hnn] at hn ⊢
 clear hN hnn
 go_enter Tryz.func50, Tryz.ntmps50
 go_wp2_with fail
 go_loopw [11, 3] (fun iv sv wr => ∃ k : Nat, k ≤ n ∧ iv = .int .i64 k ∧ sv = .int .i64 ((catL (qs.take k)).length : Nat) ∧ Hid (Mod (fun _ => False) w wr)) (fun iv _ _ => n - (intOf iv).toNat)
 case atStart => exact ⟨0, Nat.zero_le _, rfl, rfl, Hi (Mod.refl _ _)⟩
 case round =>
  obtain ⟨k, hk, rfl, rfl, hM0⟩ := hrel
  have H0 := Hi (H.out.mod0 hM0.out)
  by_cases hlt : k < n
  ·have hkq : k < qs.length := by rw [← HNN.out]; exact hlt
   obtain ⟨b, o, rfl, hc⟩ := H0.out.get hkq
   have hs := congrArg List.length (cat_succ qs hkq)
   rw [List.length_append] at hs
   have hle := cat_le qs (k + 1)
   rw [← HN.out] at hle
   obtain ⟨t, ht⟩ : ∃ t, t = (catL (qs.take k)).length := ⟨_, rfl⟩
   obtain ⟨m, hm⟩ : ∃ m, m = qs[k].2.length := ⟨_, rfl⟩
   rw [← ht, ← hm] at hs
   rw [← hm] at hc
   rw [← ht]
   have HS := Hi hs
   have htm : t + m < 2 ^ 40 := by omega
   have e0 : decide ((t : Int) + (m : Int) < 0) = false := decide_eq_false (by omega)
   generalize qs[k].1.a = ra at *
   generalize qs[k].1.c = rc at *
   clear hs hle ht hm
   go_wp2_with fail
   go_roundw
   case rel => exact ⟨k + 1, hlt, by go_num, by rw [HS.out]; go_num, hM0⟩
   case measure => simp [intOf]; omega
  ·obtain rfl : n = k := by omega
   have hT : Hid (qs.take n = qs) := Hi (List.take_of_length_le (by rw [← HNN.out]; exact Nat.le_refl _))
   rw [hT.out, ← HN.out]
   have HG := Hi (growB_any N wr hl)
   go_wp2_with fail
   refine HG.out.mono ?_
   rintro e w1 ⟨a1, c1, rfl, hO, hM, hF⟩
   have HO := Hi hO; have HM : Hid (Mod (fun _ => False) w w1) := Hi (hM0.out.step hM fun _ _ e => e)
   have HF : Hid (∀ b, blk a1 = some b → w.heap.size ≤ b) := Hi (fun b hb => Nat.le_trans hM0.out.size (hF b hb))
   clear hO hM hF HG H0 hM0
   go_wp2_with fail
   go_loopw [27, 6] (fun iv sv wr => ∃ (k : Nat) (a2 : Option Addr) (c2 : Nat), k ≤ n ∧ iv = .int .i64 k ∧ sv = .slice a2 (catL (qs.take k)).length c2 ∧ Hid (Mine.Own wr 5 1 a2 (catL (qs.take k)).length c2 (bts (catL (qs.take k)))) ∧ Hid (Mod (fun _ => False) w wr) ∧ Hid (∀ b, blk a2 = some b → w.heap.size ≤ b)) (fun iv _ _ => n - (intOf iv).toNat)
   case atStart => exact ⟨0, a1, c1, Nat.zero_le _, rfl, rfl, HO, HM, HF⟩
   case round =>
    obtain ⟨k, a2, c2, hk, rfl, rfl, hO2, hM2, hF2⟩ := hrel
    by_cases hlt : k < n
    ·have hkq : k < qs.length := by rw [← HNN.out]; exact hlt
     obtain ⟨b, o, rfl, hc⟩ := (H.out.mod0 hM2.out).get hkq
     have hs := congrArg List.length (cat_succ qs hkq)
     rw [List.length_append] at hs
     have hle := cat_le qs (k + 1)
     rw [← HN.out] at hle
     have HR : Hid (Rd wr qs[k].1.a (bts qs[k].2)) := Hi ((H.out.mod0 hM2.out).row _ (List.getElem_mem hkq)).2
     have HCS := Hi (cat_succ qs hkq)
     generalize qs[k].2 = y at *
     generalize catL (qs.take k) = x at *
     generalize hx2 : catL (qs.take (k + 1)) = x2 at *
     have HX2 := Hi hx2
     clear hx2
     obtain ⟨t, ht⟩ : ∃ t, t = x.length := ⟨_, rfl⟩
     obtain ⟨m, hm⟩ : ∃ m, m = y.length := ⟨_, rfl⟩
     rw [← ht, ← hm] at hs
     rw [← hm] at hc
     rw [← ht] at hO2 ⊢
     have HS := Hi hs
     have HY := Hi hm
     have htm : t + m < 2 ^ 40 := by omega
     generalize qs[k].1.a = ra at *
     generalize qs[k].1.c = rc at *
     clear hs hle ht hm
     go_wp2_with (first
      |(at_builtin; refine wpL_append rfl (.tmp 31) (.tmp 32) 23 23 rfl ti24 rfl hO2.out rfl (Src.ofRd ti24.ht m rc HR.out (by rw [HY.out]; simp [bts]) (bts_one y)) (by omega) (by unfold maxLen; omega) ?_; intro a3 c3 w3 hO3 hG3 _
        have HO3 := Hi hO3; have HG3 := Hi hG3; clear hO3 hG3))
     go_roundw
     case rel =>
      refine ⟨k + 1, a3, c3, hlt, by go_num, by rw [HX2.out, HS.out], Hi ?_, Hi (hM2.out.step HG3.out.mod fun b hb e => ?_), Hi (fun b hb => ?_)⟩
      ·rw [HX2.out, HS.out, HCS.out, bts_append]; exact HO3.out
      ·have := hF2.out b e; omega
      ·rcases HG3.out.pos with e | ⟨b2, e, h2⟩
       ·rw [e] at hb; exact hF2.out b hb
       ·rw [e] at hb
        have hb' : b2 = b := by simpa [blk] using hb
        have h1 := hM2.out.size
        omega
     case measure => simp [intOf]; omega
    ·obtain rfl : n = k := by omega
     rw [hT.out, ← HN.out] at hO2 ⊢
     go_wp2_with fail
     go_ret
     exact ⟨a2, c2, rfl, hO2.out, hM2.out, hF2.out⟩
theorem concat2_any (a : Option Addr) (c : Nat) (l : List UInt8) (b : Option Addr) (d : Nat) (m : List UInt8) (w : World) (h1 : Rd w a (bts l)) (h2 : Rd w b (bts m)) (hl : l.length + m.length < 2 ^ 39) (g : Nat) (hg : g = w.heap.size) :
 Calls Tryz.prog 50 #[.slice (some ⟨g, 0, none⟩) 2 2] (w.alloc (.cells #[.slice a l.length c, .slice b m.length d] 23)) fun e w' => ∃ b' c', e = .returned (.slice b' (l.length + m.length) c') ∧ Mine.Own w' 5 1 b' (l.length + m.length) c' (bts (l ++ m)) ∧ Mod (fun _ => False) w w' ∧ ∀ g, blk b' = some g → w.heap.size ≤ g := by
 subst hg
 have m1 : Mod (fun _ => False) w (w.alloc (.cells #[.slice a l.length c, .slice b m.length d] 23)) := (Mod.refl _ w).alloc _
 have hq : HdsB (w.alloc (.cells #[.slice a l.length c, .slice b m.length d] 23)) (some ⟨w.heap.size, 0, none⟩) [(⟨a, l.length, c⟩, l), (⟨b, m.length, d⟩, m)] := by
  refine ⟨Rd.news w [.slice a l.length c, .slice b m.length d] 23, fun q hq => ?_⟩
  rcases List.mem_cons.1 hq with rfl | hq
  ·exact ⟨rfl, h1.mod m1 fun _ _ => id⟩
  ·rw [List.mem_singleton] at hq
   subst hq
   exact ⟨rfl, h2.mod m1 fun _ _ => id⟩
 have hc : catL [((⟨a, l.length, c⟩ : Sl), l), (⟨b, m.length, d⟩, m)] = l ++ m := by simp [catL]
 have h := concat_any _ 2 _ _ hq (by rw [hc, List.length_append]; omega) (by simp)
 rw [hc] at h
 refine h.mono ?_
 rintro e w' ⟨b', c', rfl, g1, g2, g3⟩
 rw [List.length_append] at g1 ⊢
 exact ⟨b', c', rfl, g1, m1.step g2 fun _ _ e => e, fun g hg => Nat.le_trans m1.size (g3 g hg)⟩
theorem four_bts (n : Nat) (h : n < 4294967296) : bts (fourL n) = [.int .u8 ((n : Int) % 256), .int .u8 ((n : Int) / 256 % 256), .int .u8 ((n : Int) / 65536 % 256), .int .u8 ((n : Int) / 16777216)] := by
 have k : ∀ (m : Nat), m < 256 → (((UInt8.ofNat m).toNat : Nat) : Int) = (m : Int) := fun m hm => by simp; omega
 unfold bts fourL
 simp only [List.map_cons, List.map_nil]
 rw [k (n % 256) (by omega), k (n / 256 % 256) (by omega), k (n / 65536 % 256) (by omega), k (n / 16777216) (by omega)]
 have e1 : ((n % 256 : Nat) : Int) = (n : Int) % 256 := by omega
 have e2 : ((n / 256 % 256 : Nat) : Int) = (n : Int) / 256 % 256 := by omega
 have e3 : ((n / 65536 % 256 : Nat) : Int) = (n : Int) / 65536 % 256 := by omega
 have e4 : ((n / 16777216 : Nat) : Int) = (n : Int) / 16777216 := by omega
 rw [e1, e2, e3, e4]
theorem seal_any (a : Option Addr) (c : Nat) (l : List UInt8) (w : World) (hr : Rd w a (bts l)) (hl : l.length < 2 ^ 38) :
 Calls Tryz.prog 54 #[.slice a l.length c] w fun e w' => ∃ b c', e = .returned (.slice b (l.length + 4) c') ∧ Mine.Own w' 5 1 b (l.length + 4) c' (bts (l ++ fourL (crcL l))) ∧ Mod (fun _ => False) w w' ∧ ∀ g, blk b = some g → w.heap.size ≤ g := by
 have HR := Hi hr
 have HSM := Hi (sumP_any a l c w hr (by omega))
 clear hr
 go_enter Tryz.func54, Tryz.ntmps54
 go_wp2_with fail
 refine HSM.out.mono ?_
 rintro e w1 ⟨rfl, hm⟩
 have HM := Hi hm
 clear hm HSM
 obtain ⟨n, hn⟩ : ∃ n, n = crcL l := ⟨_, rfl⟩
 have hnl : n < 4294967296 := by rw [hn]; exact crcL_lt l
 rw [← hn]
 have HN := Hi hn
 clear hn
 go_wp2_with fail
 refine (sumBytes_any n hnl w1).mono ?_
 rintro e w2 ⟨rfl, hm⟩
 have HM2 : Hid (Mod (fun _ => False) w w2) := Hi (HM.out.step hm fun _ _ e => e)
 clear hm HM
 unfold fourV
 go_wp2_with fail
 have hw3 : Mod (fun _ => False) w2 (w2.alloc (.cells #[.int .u8 ((n : Int) % 256), .int .u8 ((n : Int) / 256 % 256), .int .u8 ((n : Int) / 65536 % 256), .int .u8 ((n : Int) / 16777216)] 100)) := (Mod.refl _ w2).alloc _
 have hr4 : Rd (w2.alloc (.cells #[.int .u8 ((n : Int) % 256), .int .u8 ((n : Int) / 256 % 256), .int .u8 ((n : Int) / 65536 % 256), .int .u8 ((n : Int) / 16777216)] 100)) (some ⟨w2.heap.size, 0, none⟩) (bts (fourL n)) := by
  rw [four_bts n hnl]
  exact Rd.news w2 [.int .u8 ((n : Int) % 256), .int .u8 ((n : Int) / 256 % 256), .int .u8 ((n : Int) / 65536 % 256), .int .u8 ((n : Int) / 16777216)] 100
 have HC := Hi (concat2_any a c l (some ⟨w2.heap.size, 0, none⟩) 4 (fourL n) _ (HR.out.mod (HM2.out.step hw3 fun _ _ e => e) fun _ _ => id) hr4 (by show l.length + 4 < _; omega) (w2.heap.size + 1) (by simp))
 have HM3 := Hi (HM2.out.step hw3 fun _ _ e => e)
 clear hw3 hr4
 refine HC.out.mono ?_
 clear HC
 rintro e w4 ⟨b, c4, rfl, hO, hm4, hF⟩
 have HO := Hi hO; have HM4 := Hi (HM3.out.step hm4 fun _ _ e => e)
 have HF : Hid (∀ g, blk b = some g → w.heap.size ≤ g) := Hi (fun g hg => Nat.le_trans HM3.out.size (hF g hg))
 clear hO hm4 hF HM3
 go_wp2_with fail
 go_ret
 exact ⟨b, c4, rfl, by rw [← HN.out]; exact HO.out, HM4.out, HF.out⟩
theorem clip26_any (a : Option Addr) (n c : Nat) (w : World) (hc : n ≤ c) :
 Calls Tryz.prog 53 #[.slice a n c] w fun e w' => e = .returned (.slice a n n) ∧ w = w' := by
 have h1 : ¬ ((n : Int) < 0) := by omega
 go_enter Tryz.func53, Tryz.ntmps53
 go_wp2
 go_ret
 exact ⟨rfl, rfl⟩
def headV (n : Nat) : Array Value := #[.int .u8 115, .int .u8 105, .int .u8 98, .int .u8 121, .int .u8 97, .int .u8 1, .int .u8 ((n : Int) % 256), .int .u8 ((n : Int) / 256 % 256), .int .u8 ((n : Int) / 65536 % 256), .int .u8 ((n : Int) / 16777216)]
theorem head_bts (n : Nat) (h : n < 4294967296) : bts (arHead n) = (headV n).toList := by
 unfold arHead
 rw [bts_append, four_bts n h]
 rfl
theorem headA_any (n : Nat) (hn : n < 4294967296) (w : World) :
 Calls Tryz.prog 29 #[.int .i64 n] w fun e w' => e = .returned (.agg (headV n)) ∧ Mod (fun _ => False) w w' := by
 go_enter Tryz.func29, Tryz.ntmps29
 go_wp2_with fail
 have h0 := heap_alloc_new w (.cells (headV n) 61)
 unfold headV at h0
 have c0 := cell_at (j := 0) h0 rfl; have c1 := cell_at (j := 1) h0 rfl; have c2 := cell_at (j := 2) h0 rfl; have c3 := cell_at (j := 3) h0 rfl; have c4 := cell_at (j := 4) h0 rfl
 have c5 := cell_at (j := 5) h0 rfl; have c6 := cell_at (j := 6) h0 rfl; have c7 := cell_at (j := 7) h0 rfl; have c8 := cell_at (j := 8) h0 rfl; have c9 := cell_at (j := 9) h0 rfl
 refine bodyPost_ret (v := .agg (headV n)) ?_ rfl ⟨rfl, (Mod.refl _ w).alloc _⟩
 simp [results, Tryz.f29, go_sem, c0, c1, c2, c3, c4, c5, c6, c7, c8, c9, headV]
end Go.Proofs.YtjoiaejbahdjkaaGreat
