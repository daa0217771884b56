/-
  The document's Whole.
-/
import Derived.Test.YtjoiaejbahdjkaaGreatOpI
import Derived.Test.YtjoiaejbahdjkaaGreatOpH
import Derived.Test.YtjoiaejbahdjkaaGreatRefGet
namespace Go.Proofs.YtjoiaejbahdjkaaGreat
open Go Go.RowKit Go.Mine
set_option linter.unusedVariables false
set_option maxHeartbeats 8000000
set_option maxRecDepth 100000
def WholeS (l : List UInt8) : Prop := 4 ≤ l.length ∧ l.drop (l.length - 4) = fourL (crcL (l.take (l.length - 4)))
instance (l : List UInt8) : Decidable (WholeS l) := inferInstanceAs (Decidable (_ ∧ _))
theorem wholeR_any (bb o c : Nat) (l : List UInt8) (w : World) (hr : Rd w (some ⟨bb, o, none⟩) (bts l)) (hc : l.length ≤ c) (hl : l.length < 2 ^ 38) :
 Calls Tryz.prog 27 #[.slice (some ⟨bb, o, none⟩) l.length c] w fun e w' => e = .returned (.bool (decide (WholeS l))) ∧ Mod (fun _ => False) w w' := by
 have HR := Hi hr
 have HSU := Hi (sumR_any (some ⟨bb, o, none⟩) (l.take (l.length - 4)) c w (by
  have h1 := hr.take (l.length - 4)
  unfold bts at h1 ⊢
  rw [← List.map_take] at h1
  exact h1) (by rw [List.length_take]; omega))
 have HCL := Hi (crcL_lt (l.take (l.length - 4)))
 clear hr
 obtain ⟨n, hn⟩ : ∃ n, n = l.length := ⟨_, rfl⟩
 have HN := Hi hn
 rw [← hn] at hl hc HSU HCL ⊢
 clear hn
 by_cases h4 : n < 4
 ·have hw : decide (WholeS l) = false := decide_eq_false (fun h => by have h1 := h.1; have h2 := HN.out; omega)
  have e1 : decide ((n : Int) - 4 < 0) = true := decide_eq_true (by omega)
  rw [hw]
  clear hw
  go_enter Tryz.func27, Tryz.ntmps27
  go_wp2_with fail
  go_ret
  exact ⟨rfl, Mod.refl _ _⟩
 ·have e1 : decide ((n : Int) - 4 < 0) = false := decide_eq_false (by omega)
  have hlt4 : (l.take (n - 4)).length = n - 4 := by rw [List.length_take, ← HN.out]; omega
  rw [hlt4] at HSU
  clear hlt4
  obtain ⟨x, hx⟩ : ∃ x, x = crcL (l.take (n - 4)) := ⟨_, rfl⟩
  rw [← hx] at HSU HCL
  have HX := Hi hx
  clear hx
  have hk4 : ((n : Int) - 4).toNat = n - 4 := by omega
  go_enter Tryz.func27, Tryz.ntmps27
  go_wp2_with fail
  refine HSU.out.mono ?_
  rintro e w3 ⟨rfl, hw⟩
  obtain rfl : w = w3 := hw
  clear HSU
  go_wp2_with fail
  refine (four26_any x HCL.out w).mono ?_
  rintro e w4 ⟨a4, c4, rfl, hO4, hF4, hm4⟩
  have HO4 := Hi hO4.rd; have HM4 := Hi hm4
  have hl4 : (fourL x).length = 4 := rfl
  rw [hl4]
  have HL4 := Hi hl4
  clear hO4 hF4 hm4 hl4
  have HDN : Hid ((l.drop (n - 4)).length = 4) := Hi (by rw [List.length_drop, ← HN.out]; omega)
  go_wp2_with fail
  go_loopw [5] (fun iv wr => ∃ k : Nat, iv = .int .i64 k ∧ k ≤ 4 ∧ Hid ((l.drop (n - 4)).take k = (fourL x).take k) ∧ Hid (Mod (fun _ => False) w wr) ∧ Hid (Rd wr a4 (bts (fourL x)))) (fun iv _ => 4 - (intOf iv).toNat)
  case atStart => exact ⟨0, rfl, Nat.zero_le _, Hi rfl, HM4, HO4⟩
  case round =>
   obtain ⟨k, rfl, hk, hT, hM, hO⟩ := hrel
   by_cases hlt : k < 4
   ·have h1 : n - 4 + k < l.length := by rw [← HN.out]; omega
    have h2 : k < (fourL x).length := by rw [HL4.out]; exact hlt
    have h3 : k < (l.drop (n - 4)).length := by rw [HDN.out]; exact hlt
    obtain ⟨b1, o1, eb, x0⟩ := byte_cell (HR.out.mod hM.out (fun _ _ => id)) h1
    cases eb
    obtain ⟨b2, o2, rfl, y0⟩ := byte_cell hO.out h2
    by_cases heq : l[n - 4 + k].toNat = (fourL x)[k].toNat
    ·have HT2 : Hid ((l.drop (n - 4)).take (k + 1) = (fourL x).take (k + 1)) := Hi (by
      rw [List.take_succ_eq_append_getElem h3, List.take_succ_eq_append_getElem h2, hT.out, List.getElem_drop, UInt8.toNat_inj.1 heq])
     rw [heq] at x0
     clear heq
     generalize (fourL x)[k].toNat = q at *
     go_wp2_with fail
     refine wp_region_ord (fun w' => w'.cell? ⟨bb, o + (n - 4 + k), none⟩ = some (.int .u8 (q : Nat)) ∧ w'.cell? ⟨b2, o2 + k, none⟩ = some (.int .u8 (q : Nat))) [(0, 0), (0, 1), (0, 2), (0, 3), (0, 4), (1, 5), (0, 6), (0, 7), (0, 8), (1, 9), (0, 10)] (by kernel_rfl) (by kernel_rfl) ?_
     go_wp2_with (first
      |(refine ord_pure rfl rfl rfl (fun K hK => ?_); go_big_quiet_op; refine hK _ ?_; clear hK K)
      |(refine ord_held rfl rfl rfl (⟨x0, y0⟩) (fun K hK => ?_); apply Exists.intro; refine ⟨fun w' hs => ?_, hK _ ?_⟩; (revert hs; dsimp only; (try simp only [and_imp]); intros; go_simp; rfl); clear hK K)
      |(refine ord_nil ?_))
     go_roundw
     case rel => exact ⟨k + 1, by go_num, hlt, HT2, Hi hM.out.drew, Hi (hO.out.mod (Mod.refl (fun _ => False) _).drew fun _ _ => id)⟩
     case measure => simp [intOf]; omega
    ·have HNE : Hid (¬ WholeS l) := Hi (fun h => heq (by
      have h5 := h.2
      rw [← HN.out, ← HX.out] at h5
      have h6 : (l.drop (n - 4))[k] = (fourL x)[k] := by congr 1
      rw [List.getElem_drop] at h6
      rw [h6]))
     generalize l[n - 4 + k].toNat = p at *
     generalize (fourL x)[k].toNat = q at *
     have hpq : ((p : Int) != (q : Int)) = true := by simp; omega
     clear heq
     go_wp2_with fail
     refine wp_region_ord (fun w' => w'.cell? ⟨bb, o + (n - 4 + k), none⟩ = some (.int .u8 (p : Nat)) ∧ w'.cell? ⟨b2, o2 + k, none⟩ = some (.int .u8 (q : Nat))) [(0, 0), (0, 1), (0, 2), (0, 3), (0, 4), (1, 5), (0, 6), (0, 7), (0, 8), (1, 9), (0, 10)] (by kernel_rfl) (by kernel_rfl) ?_
     go_wp2_with (first
      |(refine ord_pure rfl rfl rfl (fun K hK => ?_); go_big_quiet_op; refine hK _ ?_; clear hK K)
      |(refine ord_held rfl rfl rfl (⟨x0, y0⟩) (fun K hK => ?_); apply Exists.intro; refine ⟨fun w' hs => ?_, hK _ ?_⟩; (revert hs; dsimp only; (try simp only [and_imp]); intros; go_simp; rfl); clear hK K)
      |(refine ord_nil ?_))
     go_ret
     exact ⟨ret_boolA (decide_eq_false HNE.out).symm, hM.out.drew⟩
   ·obtain rfl : k = 4 := by omega
    have HEQ : Hid (WholeS l) := Hi (by
     have h0 := hT.out
     rw [List.take_of_length_le (by rw [HDN.out]; exact Nat.le_refl _), List.take_of_length_le (by rw [HL4.out]; exact Nat.le_refl _)] at h0
     exact ⟨by rw [← HN.out]; omega, by rw [← HN.out, ← HX.out]; exact h0⟩)
    clear hT
    go_wp2_with fail
    go_ret
    exact ⟨ret_boolA (decide_eq_true HEQ.out).symm, hM.out⟩
end Go.Proofs.YtjoiaejbahdjkaaGreat
/-
  The document's sizes: a table read.
-/
namespace Go.Proofs.YtjoiaejbahdjkaaGreat
open Go Go.RowKit Go.Mine
set_option linter.unusedVariables false
set_option maxHeartbeats 8000000
set_option maxRecDepth 100000
def nint (l : List Nat) : List Value := l.map fun n => .int .i64 (n : Nat)
def SizP (m : List UInt8) (w : World) (e : Ending) (w' : World) : Prop :=
 ((dsizes m = none ∧ e = .returned (.tuple #[.slice none 0 0, .int .i64 0, .bool false])) ∨
   (∃ ss a ga gc, dsizes m = some (ss, a) ∧ e = .returned (.tuple #[.slice ga ss.length gc, .int .i64 a, .bool true]) ∧ Rd w' ga (nint ss) ∧ (∀ b, blk ga = some b → w.heap.size ≤ b) ∧ ss.length ≤ m.length ∧ a ≤ m.length ∧ ∀ s ∈ ss, s ≤ m.length)) ∧ Mod (fun _ => False) w w'
theorem wrapu {z : Int} {n : Nat} (h : z = (n : Int)) (hn : n < 2 ^ 64) : IntKind.u64.wrap z = (n : Int) := by rw [h, IntKind.wrap_u64]; omega
theorem wrapi {n : Nat} (hn : n < 2 ^ 62) : IntKind.i64.wrap (n : Int) = (n : Int) := by rw [IntKind.wrap_i64]; omega
theorem sizes26_any (bb o c : Nat) (m : List UInt8) (w : World) (hr : Rd w (some ⟨bb, o, none⟩) (bts m)) (hc : m.length < c) (hl : m.length ≤ 16777216) :
 Calls Tryz.prog 58 #[.slice (some ⟨bb, o, none⟩) m.length c] w (SizP m w) := by
 have HR := Hi hr
 have HG0 := Hi (refGet_any (some ⟨bb, o, none⟩) m c w hr (by omega))
 have HDS : Hid (dsizes m = if (getL m).2.2 ≠ 0 then none else if m.length < (getL m).1 then none else dtabGo m (getL m).1 (getL m).2.1 []) := Hi rfl
 have hk0 := getL_le m
 have HG1 := Hi fun (a : Nat) (ha : a ≤ m.length) W (mW : Mod (fun _ => False) w W) => refGet_any (some ⟨bb, o + a, none⟩) (m.drop a) (c - a) W ((hr.drop a).mod mW (fun _ _ => id) |> fun h => by unfold bts at h ⊢; rw [← List.map_drop] at h; exact h) (by rw [List.length_drop]; omega)
 obtain ⟨N, hN⟩ : ∃ N, N = m.length := ⟨_, rfl⟩
 have HNN := Hi hN
 rw [← hN] at hc hl hk0 HG0 HDS ⊢
 simp only [List.length_drop, ← hN] at HG1
 clear hr hN
 obtain ⟨n, hn⟩ : ∃ n, n = (getL m).1 := ⟨_, rfl⟩
 obtain ⟨x0, hx0⟩ : ∃ x, x = (getL m).2.1 := ⟨_, rfl⟩
 obtain ⟨f0, hf0⟩ : ∃ x, x = (getL m).2.2 := ⟨_, rfl⟩
 rw [← hn, ← hx0, ← hf0] at HG0
 rw [← hn, ← hx0, ← hf0] at HDS
 rw [← hx0] at hk0
 clear hn hx0 hf0
 go_enter Tryz.func58, Tryz.ntmps58
 go_wp2_with fail
 refine HG0.out.mono ?_
 rintro e w1 ⟨rfl, hw⟩
 obtain rfl : w = w1 := hw
 clear HG0
 by_cases hf : f0 = 0
 rotate_left
 ·have e1 : ((f0 : Int) != 0) = true := by simp; omega
  have HX : Hid (dsizes m = none) := Hi (by rw [HDS.out, if_pos hf])
  go_wp2_with fail
  refine bodyPost_ret (v := .tuple #[.slice none 0 0, .int .i64 0, .bool false]) ?_ rfl ⟨.inl ⟨HX.out, rfl⟩, Mod.refl _ _⟩
  simp [results, Tryz.results58, go_sem]
 obtain rfl : 0 = f0 := hf.symm
 have e1 : (((0 : Nat) : Int) != 0) = false := by rfl
 have hwn : IntKind.u64.wrap (N : Int) = (N : Int) := wrapu rfl (by omega)
 by_cases hbig : N < n
 ·have e2 : decide (N < n) = true := decide_eq_true (by omega)
  have HX : Hid (dsizes m = none) := Hi (by rw [HDS.out, if_neg (by simp), if_pos hbig])
  go_wp2_with fail
  refine bodyPost_ret (v := .tuple #[.slice none 0 0, .int .i64 0, .bool false]) ?_ rfl ⟨.inl ⟨HX.out, rfl⟩, Mod.refl _ _⟩
  simp [results, Tryz.results58, go_sem]
 have e2 : decide (N < n) = false := decide_eq_false (by omega)
 have hwi : IntKind.i64.wrap (n : Int) = (n : Int) := wrapi (by omega)
 have HDT : Hid (dsizes m = dtabGo m n x0 []) := Hi (by rw [HDS.out, if_neg (by simp), if_neg hbig])
 have hnN : n ≤ N := by omega
 clear hf hbig HDS
 go_wp2_with fail
 go_loopw [9, 7, 5] (fun iv av sv wr => ∃ (k a : Nat) (ss : List Nat) (s : Nat) (ga : Option Addr) (gc : Nat), k ≤ n ∧ iv = .int .i64 k ∧ av = .int .i64 a ∧ sv = .slice ga s gc ∧ a ≤ N ∧ Hid (s = ss.length) ∧ s = k ∧ Hid (dsizes m = dtabGo m (n - k) a ss) ∧ Hid (Mine.Own wr 3 1 ga s gc (nint ss)) ∧ Hid (∀ b, blk ga = some b → w.heap.size ≤ b) ∧ Hid (Mod (fun _ => False) w wr) ∧ Hid (∀ s ∈ ss, s ≤ N)) (fun iv _ _ _ => n - (intOf iv).toNat)
 case atStart => exact ⟨0, x0, [], 0, none, 0, Nat.zero_le _, rfl, rfl, rfl, hk0, Hi rfl, rfl, HDT, Hi (Mine.Own.nil _ _ _), Hi (fun b hb => by cases hb), Hi (Mod.refl _ _), Hi (fun s h => by cases h)⟩
 case round =>
  clear hk0 HDT
  obtain ⟨k, a, ss, s, ga, gc, hk, rfl, rfl, rfl, ha, hS, rfl, hD, hO, hF, hM, hSS⟩ := hrel
  by_cases hlt : s < n
  rotate_left
  ·obtain rfl : n = s := by omega
   have HX : Hid (dsizes m = some (ss, a)) := Hi (by rw [hD.out, Nat.sub_self, dtabGo])
   clear hlt
   go_wp2_with fail
   refine bodyPost_ret (v := .tuple #[.slice ga n gc, .int .i64 a, .bool true]) ?_ rfl ⟨.inr ⟨ss, a, ga, gc, HX.out, by rw [← hS.out], hO.out.rd, hF.out, by rw [← hS.out, ← HNN.out]; omega, by rw [← HNN.out]; exact ha, by rw [← HNN.out]; exact hSS.out⟩, hM.out⟩
   simp [results, Tryz.results58, go_sem]
  ·have hD2 := hD.out
   rw [show n - s = (n - (s + 1)) + 1 from by omega, dtabGo, ← HNN.out] at hD2
   have HGa := Hi (HG1.out a ha wr hM.out)
   have hy0 := getL_le (m.drop a)
   rw [List.length_drop, ← HNN.out] at hy0
   obtain ⟨n1, hn1⟩ : ∃ n, n = (getL (m.drop a)).1 := ⟨_, rfl⟩
   obtain ⟨x1, hx1⟩ : ∃ x, x = (getL (m.drop a)).2.1 := ⟨_, rfl⟩
   obtain ⟨f1, hf1⟩ : ∃ x, x = (getL (m.drop a)).2.2 := ⟨_, rfl⟩
   rw [← hn1, ← hx1, ← hf1] at HGa
   rw [← hn1, ← hx1, ← hf1] at hD2
   rw [← hx1] at hy0
   have HD2 := Hi hD2
   clear hn1 hx1 hf1 hD hD2
   go_wp2_with fail
   refine HGa.out.mono ?_
   rintro e w1 ⟨rfl, hw⟩
   obtain rfl : wr = w1 := hw
   clear HGa
   by_cases hf : f1 = 0
   rotate_left
   ·have e1 : ((f1 : Int) != 0) = true := by simp; omega
    have HX : Hid (dsizes m = none) := Hi (by rw [HD2.out, if_pos hf])
    go_wp2_with fail
    refine bodyPost_ret (v := .tuple #[.slice none 0 0, .int .i64 0, .bool false]) ?_ rfl ⟨.inl ⟨HX.out, rfl⟩, hM.out⟩
    simp [results, Tryz.results58, go_sem]
   obtain rfl : 0 = f1 := hf.symm
   have e1 : (((0 : Nat) : Int) != 0) = false := by rfl
   have hwz : IntKind.u64.wrap ((N : Int) - a - x1) = ((N - a - x1 : Nat) : Int) := wrapu (by omega) (by omega)
   by_cases hbig : N - a - x1 < n1
   ·have e2 : decide (N - a - x1 < n1) = true := decide_eq_true (by omega)
    have HX : Hid (dsizes m = none) := Hi (by rw [HD2.out, if_neg (by simp), if_pos hbig])
    go_wp2_with fail
    refine bodyPost_ret (v := .tuple #[.slice none 0 0, .int .i64 0, .bool false]) ?_ rfl ⟨.inl ⟨HX.out, rfl⟩, hM.out⟩
    simp [results, Tryz.results58, go_sem]
   have e2 : decide (N - a - x1 < n1) = false := decide_eq_false (by omega)
   have hwj : IntKind.i64.wrap (n1 : Int) = (n1 : Int) := wrapi (by omega)
   have HD3 := Hi (by have h := HD2.out; rw [if_neg (by simp), if_neg hbig] at h; exact h)
   obtain ⟨a2, ha2⟩ : ∃ a2, a2 = a + x1 + n1 := ⟨_, rfl⟩
   have ha2N : a2 ≤ N := by omega
   rw [← ha2] at HD3
   have HGb := Hi (HG1.out a2 ha2N wr hM.out)
   have hy2 := getL_le (m.drop a2)
   rw [List.length_drop, ← HNN.out] at hy2
   obtain ⟨n2, hn2⟩ : ∃ n, n = (getL (m.drop a2)).1 := ⟨_, rfl⟩
   obtain ⟨x2, hx2⟩ : ∃ x, x = (getL (m.drop a2)).2.1 := ⟨_, rfl⟩
   obtain ⟨f2, hf2⟩ : ∃ x, x = (getL (m.drop a2)).2.2 := ⟨_, rfl⟩
   rw [← hn2, ← hx2, ← hf2] at HGb
   rw [← hn2, ← hx2, ← hf2] at HD3
   rw [← hx2] at hy2
   clear hn2 hx2 hf2 HD2 hf hbig
   have haz : (a : Int) + x1 + n1 = (a2 : Int) := by omega
   clear ha2
   go_wp2_with fail
   refine HGb.out.mono ?_
   rintro e w1 ⟨rfl, hw⟩
   obtain rfl : wr = w1 := hw
   clear HGb hwz hwj e1 e2 haz
   by_cases hf : f2 = 0
   rotate_left
   ·have e1 : ((f2 : Int) != 0) = true := by simp; omega
    have HX : Hid (dsizes m = none) := Hi (by rw [HD3.out, if_pos hf])
    go_wp2_with fail
    refine bodyPost_ret (v := .tuple #[.slice none 0 0, .int .i64 0, .bool false]) ?_ rfl ⟨.inl ⟨HX.out, rfl⟩, hM.out⟩
    simp [results, Tryz.results58, go_sem]
   obtain rfl : 0 = f2 := hf.symm
   have e1 : (((0 : Nat) : Int) != 0) = false := by rfl
   by_cases hbig : N < n2
   ·have e2 : decide (N < n2) = true := decide_eq_true (by omega)
    have HX : Hid (dsizes m = none) := Hi (by rw [HD3.out, if_neg (by simp), if_pos hbig])
    go_wp2_with fail
    refine bodyPost_ret (v := .tuple #[.slice none 0 0, .int .i64 0, .bool false]) ?_ rfl ⟨.inl ⟨HX.out, rfl⟩, hM.out⟩
    simp [results, Tryz.results58, go_sem]
   have e2 : decide (N < n2) = false := decide_eq_false (by omega)
   have hwj : IntKind.i64.wrap (n2 : Int) = (n2 : Int) := wrapi (by omega)
   have HD4 := Hi (by have h := HD3.out; rw [if_neg (by simp), if_neg hbig] at h; exact h)
   have HSS2 : Hid (∀ s ∈ ss ++ [n2], s ≤ N) := Hi (fun s hs => by
    rcases List.mem_append.1 hs with h | h
    ·exact hSS.out s h
    ·rw [List.mem_singleton.1 h]; omega)
   clear hf hbig HD3 hSS
   go_wp2_with (first
    |(at_builtin; refine wpL_appendN (us := [_]) rfl (.tmp 82) (.tmp 85) 97 rfl tiI rfl hO.out rfl rfl rfl (by omega) (by unfold maxLen; omega) ?_; intro a3 c3 w3 hO3 hG3 _
      have HO3 := Hi hO3; have HG3 := Hi hG3; clear hO3 hG3))
   go_roundw
   case rel =>
    refine ⟨s + 1, a2 + x2, ss ++ [n2], s + 1, a3, c3, hlt, by go_num, by go_num, rfl, by omega, Hi (by rw [List.length_append, ← hS.out]; rfl), rfl, HD4, Hi ?_, Hi (fun b hb => ?_), Hi (hM.out.step HG3.out.mod fun b hb e => ?_), HSS2⟩
    ·unfold nint; rw [List.map_append]; exact HO3.out
    ·rcases HG3.out.pos with e | ⟨b2, e, h2⟩
     ·rw [e] at hb; exact hF.out b hb
     ·rw [e] at hb
      have hb' : b2 = b := by simpa [blk] using hb
      have h1 := hM.out.size
      omega
    ·have := hF.out b e; omega
   case measure => simp [intOf]; omega
end Go.Proofs.YtjoiaejbahdjkaaGreat
/-
  The document's read and Open.
-/
namespace Go.Proofs.YtjoiaejbahdjkaaGreat
open Go Go.RowKit Go.Mine
set_option linter.unusedVariables false
set_option maxHeartbeats 8000000
set_option maxRecDepth 100000
structure RFr (w0 w : World) (p : Nat) (es : Ens) : Prop where
 ex : ∃ na nc fa fc, RAt w p na nc fa fc es ∧ (∀ b, blk na = some b → w0.heap.size ≤ b) ∧ ∀ b, blk fa = some b → w0.heap.size ≤ b
 lo : w0.heap.size ≤ p
 ents : ∀ q ∈ es, w0.heap.size ≤ q.2.g ∧ q.2.f.length ≤ q.2.c
 ok : ArcOk 16777216 (arcOf es)
theorem RFr.mod0 {w0 w w' : World} {p : Nat} {es : Ens} (h : RFr w0 w p es) (m : Mod (fun _ => False) w w') : RFr w0 w' p es := by
 obtain ⟨na, nc, fa, fc, h1, h2⟩ := h.ex
 exact ⟨⟨na, nc, fa, fc, h1.mod0 m, h2⟩, h.lo, h.ents, h.ok⟩
def ReadA (b : List UInt8) (w : World) (e : Ending) (w' : World) : Prop :=
 ((∃ p es, dopen b = some (arcOf es) ∧ e = .returned (.tuple #[.pointer (some ⟨p, 0, none⟩), .bool true]) ∧ RFr w w' p es) ∨
   (∃ v, dopen b = none ∧ e = .returned (.tuple #[v, .bool false]))) ∧ Mod (fun _ => False) w w'
theorem read26_any (bb o c : Nat) (b : List UInt8) (w : World) (hr : Rd w (some ⟨bb, o, none⟩) (bts b)) (hc : b.length ≤ c) (hl : b.length ≤ 16777216) (h15 : 15 ≤ b.length) :
 Calls Tryz.prog 28 #[.slice (some ⟨bb, o, none⟩) b.length c] w (ReadA b w) := by
 have HR := Hi hr
 have hml : (inA b).length = b.length - 14 := by unfold inA; rw [List.length_take, List.length_drop]; omega
 have HMR : Rd w (some ⟨bb, o + 10, none⟩) (bts (inA b)) := by
  have h1 := subA_part (w := w) (a := some ⟨bb, o, none⟩) (c := c) (from_ := 10) (n := b.length - 14) hr hc
  have h2 : subA (some ⟨bb, o, none⟩) c 10 1 = some ⟨bb, o + 10, none⟩ := by unfold subA; rw [if_neg (by omega)]; rfl
  rw [h2] at h1
  exact h1
 have HSI := Hi (sizes26_any bb (o + 10) (c - 10) (inA b) w HMR (by omega) (by omega))
 have hDO : dopen b = match dsizes (inA b) with
  | none => none
  | some (ss, a) => match dfilGo b ss (a + 10) [] with
    | none => none
    | some l => if arcL l = b then some l else none := rfl
 have HDO := Hi hDO
 rw [hml] at HSI
 have hml2 := Hi hml
 obtain ⟨N, hN⟩ : ∃ N, N = b.length := ⟨_, rfl⟩
 have HNN := Hi hN
 rw [← hN] at hc hl h15 HSI hml2 ⊢
 clear hr hN hml HMR hDO
 have hk4 : ((N : Int) - 4).toNat = N - 4 := by omega
 have hk14 : N - 4 - 10 = N - 14 := by omega
 have HBAD : Hid (dsizes (inA b) = none → dopen b = none) := Hi (fun h => by rw [HDO.out, h])
 go_enter Tryz.func28, Tryz.ntmps28
 go_wp2_with fail
 refine HSI.out.mono ?_
 clear HSI
 rintro e w1 ⟨⟨hd, rfl⟩ | ⟨ss, a0, ga, gc, hd, rfl, hgr, hgf, hsl, ha0, hss⟩, hm⟩
 ·have HX := Hi (HBAD.out hd)
  have HM := Hi hm
  clear hd hm
  go_wp2_with fail
  refine bodyPost_ret (v := .tuple #[.pointer none, .bool false]) ?_ rfl ⟨.inr ⟨_, HX.out, rfl⟩, HM.out⟩
  simp [results, Tryz.results28, go_sem]
 rw [hml2.out] at hsl ha0
 have hss2 : ∀ s ∈ ss, s ≤ N := fun s hs => by have := hss s hs; rw [hml2.out] at this; omega
 have HDX : Hid (dopen b = match dfilGo b ss (a0 + 10) [] with
  | none => none
  | some l => if arcL l = b then some l else none) := Hi (by rw [HDO.out, hd])
 have HGR := Hi hgr; have HM := Hi hm; have HSS := Hi hss2
 obtain ⟨n, hn⟩ : ∃ n, n = ss.length := ⟨_, rfl⟩
 have HN := Hi hn
 rw [← hn] at hsl ⊢
 clear hd hgr hgf hss hss2 hm hn HBAD HDO hk14
 go_wp2_with fail
 refine (newR26_any w1).mono ?_
 rintro e w2 ⟨rfl, hw2⟩
 obtain ⟨p, hp⟩ : ∃ p, p = w1.heap.size := ⟨_, rfl⟩
 have HM2 : Hid (Mod (fun _ => False) w w2) := Hi (HM.out.step (by rw [hw2]; exact (Mod.refl _ w1).alloc _) fun _ _ e => e)
 have HF2 : Hid (RFr w w2 p []) := Hi ⟨⟨none, 0, none, 0, ⟨by rw [hw2, hp]; exact heap_alloc_new w1 _, Rd.nil _ _, Rd.nil _ _, fun q hq => by cases hq⟩, (fun b hb => by cases hb), fun b hb => by cases hb⟩, by rw [hp]; exact HM.out.size, (fun q hq => by cases hq), ArcOk.nil.mono (by decide)⟩
 have HGP : Hid (nint ss = [] ∨ ∀ b, blk ga = some b → b ≠ p) := Hi (by
  by_cases h0 : nint ss = []
  ·exact .inl h0
  ·exact .inr fun b hb e => by have := HGR.out.lt h0 b hb; omega)
 have HGR2 : Hid (Rd w2 ga (nint ss)) := Hi (HGR.out.mod (S := fun _ => False) (by rw [hw2]; exact (Mod.refl _ w1).alloc _) fun _ _ => id)
 rw [← hp]
 clear hp hw2 HGR
 have e10 : ((a0 : Int) + 10) = ((a0 + 10 : Nat) : Int) := by omega
 obtain ⟨a1, ha1⟩ : ∃ a1, a1 = a0 + 10 := ⟨_, rfl⟩
 rw [← ha1] at HDX e10
 have hz1 : a1 ≤ N - 4 := by omega
 clear ha1 ha0
 go_wp2_with fail
 go_loopw [8, 5] (fun iv av wr => ∃ (k a : Nat) (es : Ens), k ≤ n ∧ iv = .int .i64 k ∧ av = .int .i64 a ∧ a ≤ N - 4 ∧ Hid (dfilGo b (ss.drop k) a (arcOf es) = dfilGo b ss a1 []) ∧ Hid (RFr w wr p es) ∧ Hid (Rd wr ga (nint ss)) ∧ Hid (Mod (fun _ => False) w wr)) (fun iv _ _ => n - (intOf iv).toNat)
 case atStart => exact ⟨0, a1, [], Nat.zero_le _, rfl, by first | rfl | rw [e10], hz1, Hi rfl, HF2, HGR2, HM2⟩
 case round =>
  clear hz1 e10 HF2 HGR2 HM2 HM
  obtain ⟨k, a, es, hk, rfl, rfl, ha, hD, hF, hG, hM⟩ := hrel
  by_cases hlt : k < n
  ·have hks : k < ss.length := by rw [← HN.out]; exact hlt
   obtain ⟨b1, o1, rfl, s0⟩ := hG.out k (.int .i64 ss[k]) (by simp [nint, hks])
   have hD2 := hD.out
   rw [show ss.drop k = ss[k] :: ss.drop (k + 1) from (List.getElem_cons_drop hks).symm, dfilGo, ← HNN.out] at hD2
   have hsN := HSS.out _ (List.getElem_mem hks)
   obtain ⟨s, hs⟩ : ∃ s, s = ss[k] := ⟨_, rfl⟩
   rw [← hs] at s0 hD2 hsN
   have HSK : Hid ((nint ss)[k]? = some (.int .i64 s)) := Hi (by rw [hs]; simp [nint, hks])
   clear hs hD
   by_cases hbig : N - 4 - a < s
   ·have e1 : decide ((N : Int) - 4 - a < (s : Int)) = true := decide_eq_true (by omega)
    rw [if_pos hbig] at hD2
    have HX : Hid (dopen b = none) := Hi (by rw [HDX.out, ← hD2])
    clear hD2
    go_wp2_with fail
    refine bodyPost_ret (v := .tuple #[.pointer none, .bool false]) ?_ rfl ⟨.inr ⟨_, HX.out, rfl⟩, hM.out⟩
    simp [results, Tryz.results28, go_sem]
   ·have e1 : decide ((N : Int) - 4 - a < (s : Int)) = false := decide_eq_false (by omega)
    rw [if_neg hbig] at hD2
    obtain ⟨na, nc, fa, fc, hRA, hna, hfa⟩ := hF.out.ex
    obtain ⟨f, hf⟩ : ∃ f, f = (b.drop a).take s := ⟨_, rfl⟩
    have hfl : f.length = s := by rw [hf, List.length_take, List.length_drop, ← HNN.out]; omega
    have HPU := Hi (putR26_any p na fa nc fc es (some ⟨bb, o + a, none⟩) (c - a) f wr hRA hF.out.ok (by
     have h1 := ((HR.out.mod hM.out fun _ _ => id).drop a).take s
     unfold bts at h1 ⊢
     rw [← List.map_drop, ← List.map_take, ← hf] at h1
     exact h1) (by omega) (by omega))
    rw [hfl] at HPU
    rw [← hf] at hD2
    have HD2 := Hi hD2; have HNA := Hi hna; have HFA := Hi hfa
    have hcut : a + s - a = s := by omega
    have has : a + s ≤ N - 4 := by omega
    clear hD2 hRA hf hfl hna hfa hbig
    go_wp2_with fail
    refine HPU.out.mono ?_
    clear HPU
    rintro e w3 ⟨na', nc', fa', fc', es', rfl, hes', hRA', hq', hna', hfa', hm⟩
    have HM3 : Hid (Mod (fun _ => False) w w3) := Hi (hM.out.step hm fun b hb e => by
     have := hF.out.lo; have h2 : b = p := e; omega)
    have HG3 : Hid (Rd w3 (some ⟨b1, o1, none⟩) (nint ss)) := Hi (by
     rcases HGP.out with h | h
     ·rw [h]; exact Rd.nil _ _
     ·exact hG.out.mod hm fun b hb e => h b hb e)
    have HF3 : Hid (RFr w w3 p es') := Hi ⟨⟨na', nc', fa', fc', hRA', fun b hb => (hna' b hb).elim (HNA.out b) fun h => Nat.le_trans hM.out.size h, fun b hb => (hfa' b hb).elim (HFA.out b) fun h => Nat.le_trans hM.out.size h⟩, hF.out.lo, fun q hq => (hq' q hq).elim (hF.out.ents q) fun h => ⟨Nat.le_trans hM.out.size h.1, h.2⟩, by rw [hes']; exact putS_ok hF.out.ok⟩
    have HES := Hi hes'
    clear hes' hRA' hq' hna' hfa' hm
    by_cases hz : (putS (arcOf es) f).1 = 0
    ·have HD3 : Hid (dfilGo b (ss.drop (k + 1)) (a + s) (arcOf es') = dfilGo b ss a1 []) := Hi (by
      have h1 := HD2.out
      rw [if_neg (by simpa using hz), ← HES.out] at h1
      exact h1)
     obtain ⟨b3, o3, e3, s3⟩ := HG3.out k (.int .i64 s) HSK.out
     cases e3
     rw [hz]
     clear hz HD2
     go_wp2_with fail
     go_roundw
     case rel => exact ⟨k + 1, a + s, es', hlt, by go_num, by go_num, by omega, HD3, HF3, HG3, HM3⟩
     case measure => simp [intOf]; omega
    ·have HX : Hid (dopen b = none) := Hi (by
      have h1 := HD2.out
      rw [if_pos (by simpa using hz)] at h1
      rw [HDX.out, ← h1])
     obtain ⟨e0, he0⟩ : ∃ e0, e0 = (putS (arcOf es) f).1 := ⟨_, rfl⟩
     rw [← he0] at hz ⊢
     have e2 : ((e0 : Int) != 0) = true := by simp; omega
     clear he0
     go_wp2_with fail
     refine bodyPost_ret (v := .tuple #[.pointer none, .bool false]) ?_ rfl ⟨.inr ⟨_, HX.out, rfl⟩, HM3.out⟩
     simp [results, Tryz.results28, go_sem]
  ·obtain rfl : n = k := by omega
   have hD2 := hD.out
   rw [List.drop_of_length_le (by rw [← HN.out]; exact Nat.le_refl _), dfilGo] at hD2
   have HX : Hid (dopen b = if arcL (arcOf es) = b then some (arcOf es) else none) := Hi (by rw [HDX.out, ← hD2])
   obtain ⟨na, nc, fa, fc, hRA, hna, hfa⟩ := hF.out.ex
   have HBY := Hi (bytesR26_any p na fa nc fc es wr hRA (hF.out.ok.mono (by decide)))
   have hbl : (arcL (arcOf es)).length < 2 ^ 40 := by rw [arcL_len]; have := hF.out.ok.sz; omega
   clear hRA hna hfa hD hD2
   go_wp2_with fail
   refine HBY.out.mono ?_
   clear HBY
   rintro e w3 ⟨g, c3, rfl, hO, hFg, hm⟩
   have HSA := Hi (sameR26_any g (some ⟨bb, o, none⟩) c3 c (arcL (arcOf es)) b w3 hO.rd ((HR.out.mod hM.out fun _ _ => id).mod hm fun _ _ => id) hbl (by rw [← HNN.out]; omega))
   rw [← HNN.out] at HSA
   have HM3 := Hi (hM.out.step hm fun _ _ e => e)
   have HF3 := Hi (hF.out.mod0 hm)
   obtain ⟨s, hs⟩ : ∃ s, s = (arcL (arcOf es)).length := ⟨_, rfl⟩
   rw [← hs] at HSA ⊢
   clear hO hFg hm hbl hs
   go_wp2_with fail
   refine HSA.out.mono ?_
   clear HSA
   rintro e w4 ⟨rfl, hm⟩
   have HM4 := Hi (HM3.out.step hm fun _ _ e => e)
   have HF4 := Hi (HF3.out.mod0 hm)
   clear hm
   by_cases heq : arcL (arcOf es) = b
   ·have e5 := decide_eq_true heq
    rw [e5]
    have HY := Hi (HX.out.trans (if_pos heq))
    clear e5 heq
    go_wp2_with fail
    refine bodyPost_ret (v := .tuple #[.pointer (some ⟨p, 0, none⟩), .bool true]) ?_ rfl ⟨.inl ⟨p, es, HY.out, rfl, HF4.out⟩, HM4.out⟩
    simp [results, Tryz.results28, go_sem]
   ·have e5 := decide_eq_false heq
    rw [e5]
    have HY := Hi (HX.out.trans (if_neg heq))
    clear e5 heq
    go_wp2_with fail
    refine bodyPost_ret (v := .tuple #[.pointer (some ⟨p, 0, none⟩), .bool false]) ?_ rfl ⟨.inr ⟨_, HY.out, rfl⟩, HM4.out⟩
    simp [results, Tryz.results28, go_sem]
end Go.Proofs.YtjoiaejbahdjkaaGreat
/-
  The document's Open.
-/
namespace Go.Proofs.YtjoiaejbahdjkaaGreat
open Go Go.RowKit Go.Mine
set_option linter.unusedVariables false
set_option maxHeartbeats 8000000
set_option maxRecDepth 100000
def OpenR (b : List UInt8) (w : World) (e : Ending) (w' : World) : Prop :=
 ((∃ p es, openS b = (0, some (arcOf es)) ∧ e = .returned (.tuple #[.pointer (some ⟨p, 0, none⟩), .int .i64 0]) ∧ RFr w w' p es) ∨
   (∃ k, openS b = (k, none) ∧ k ≠ 0 ∧ e = .returned (.tuple #[.pointer none, .int .i64 k]))) ∧ Mod (fun _ => False) w w'
theorem openR_any (a : Option Addr) (c : Nat) (b : List UInt8) (w : World) (hr : Rd w a (bts b)) (hc : b.length ≤ c) (hl : b.length < 2 ^ 40) :
 Calls Tryz.prog 13 #[.slice a b.length c] w (OpenR b w) := by
 by_cases h16 : 16777216 < b.length
 ·have HH : Hid (openS b = (3, none)) := Hi (by unfold openS; rw [if_pos h16])
  clear hr
  have e1 : decide ((16777216 : Int) < (b.length : Int)) = true := decide_eq_true (by omega)
  go_enter Tryz.func13, Tryz.ntmps13
  go_wp2_with fail
  refine bodyPost_ret (v := .tuple #[.pointer none, .int .i64 3]) ?_ rfl ⟨.inr ⟨3, HH.out, by decide, rfl⟩, Mod.refl _ _⟩
  simp [results, Tryz.results13, go_sem]
 obtain ⟨N, hN⟩ : ∃ N, N = b.length := ⟨_, rfl⟩
 have HNN := Hi hN
 have e1 : decide ((16777216 : Int) < (N : Int)) = false := decide_eq_false (by omega)
 have hwu : IntKind.u32.wrap (N : Int) = (N : Int) := by rw [IntKind.wrap_u32]; omega
 by_cases h15 : b.length < 15
 ·have HH : Hid (openS b = (260, none)) := Hi (by unfold openS; rw [if_neg h16, if_pos (.inl h15)])
  rw [← hN] at hc hl h15 h16 ⊢
  have hg : decide ((N : Int) < 15) = true := decide_eq_true (by omega)
  clear hr hN
  go_enter Tryz.func13, Tryz.ntmps13
  have HO0 : Hid (Mine.Own (w.alloc (.cells #[.int .u8 115, .int .u8 105, .int .u8 98, .int .u8 121, .int .u8 97, .int .u8 1] 5)) 5 1 (some ⟨w.heap.size, 0, none⟩) 6 6 (bts arMagic)) := Hi (by
   have h := Own.made w 5 1 #[.int .u8 115, .int .u8 105, .int .u8 98, .int .u8 121, .int .u8 97, .int .u8 1] 6 6 (by decide) (by decide) rfl
   exact h)
  have HM0 : Hid (Mod (fun _ => False) w (w.alloc (.cells #[.int .u8 115, .int .u8 105, .int .u8 98, .int .u8 121, .int .u8 97, .int .u8 1] 5))) := Hi ((Mod.refl _ w).alloc _)
  go_wp2_with fail
  obtain ⟨g0, hg0⟩ : ∃ g0, g0 = w.heap.size := ⟨_, rfl⟩
  rw [← hg0] at HO0 ⊢
  have HG0 := Hi hg0
  clear hg0
  generalize w.alloc (.cells #[.int .u8 115, .int .u8 105, .int .u8 98, .int .u8 121, .int .u8 97, .int .u8 1] 5) = w1 at *
  refine (four26_any N (by omega) w1).mono ?_
  rintro e w3 ⟨a3, c3, rfl, hO3, _, hm3⟩
  have HO3 := Hi hO3; have HM3 := Hi (HM0.out.step hm3 fun _ _ e => e)
  have HO1 := Hi (HO0.out.mod hm3 fun _ _ => id)
  clear hO3 hm3
  rw [show (fourL N).length = 4 from rfl] at *
  go_wp2_with (first
   |(at_builtin; refine wpL_append rfl (.tmp 11) (.tmp 15) 23 23 rfl ti24 rfl HO1.out rfl (Src.ofRd ti24.ht 4 c3 HO3.out.rd (by simp [bts]; rfl) (bts_one _)) (by omega) (by unfold maxLen; omega) ?_; intro a4 c4 w4 hO4 hG4 _
     have HO4 : Hid (Mine.Own w4 5 1 a4 10 c4 (bts (arHead N))) := Hi (by unfold arHead; rw [bts_append]; exact hO4)
     have HM4 : Hid (Mod (fun _ => False) w w4) := Hi (HM3.out.step hG4.mod fun b hb e => by
      have h1 : g0 = b := by simpa [blk] using e
      have := HG0.out; omega)
     clear hO4 hG4))
  refine bodyPost_ret (v := .tuple #[.pointer none, .int .i64 260]) ?_ rfl ⟨.inr ⟨260, HH.out, by decide, rfl⟩, HM4.out⟩
  simp [results, Tryz.results13, go_sem]
 have hg : decide ((N : Int) < 15) = false := decide_eq_false (by omega)
 obtain ⟨bb, o, rfl, x00⟩ := byte_cell hr (i := 0) (by omega)
 have HSA := Hi fun (a2 : Option Addr) (d2 : Nat) W (m : Mod (fun _ => False) w W) (h : Rd W a2 (bts (arHead N))) => sameR26_any (some ⟨bb, o, none⟩) a2 c d2 (b.take 10) (arHead N) W (by
  have h1 := (hr.mod m fun _ _ => id).take 10
  unfold bts at h1 ⊢
  rw [← List.map_take] at h1
  exact h1) h (by rw [List.length_take]; omega) (by show (10 : Nat) < _; decide)
 rw [show (b.take 10).length = 10 by rw [List.length_take]; omega, show (arHead N).length = 10 from rfl] at HSA
 have HWH := Hi (fun W (m : Mod (fun _ => False) w W) => wholeR_any bb o c b W (hr.mod m (fun _ _ => id)) hc (by omega))
 have HRE := Hi (fun W (m : Mod (fun _ => False) w W) => read26_any bb o c b W (hr.mod m (fun _ _ => id)) hc (by omega) (by omega))
 rw [← hN] at hc hl h15 h16 HWH HRE ⊢
 clear hr x00 hN
 go_enter Tryz.func13, Tryz.ntmps13
 have HO0 : Hid (Mine.Own (w.alloc (.cells #[.int .u8 115, .int .u8 105, .int .u8 98, .int .u8 121, .int .u8 97, .int .u8 1] 5)) 5 1 (some ⟨w.heap.size, 0, none⟩) 6 6 (bts arMagic)) := Hi (by
  have h := Own.made w 5 1 #[.int .u8 115, .int .u8 105, .int .u8 98, .int .u8 121, .int .u8 97, .int .u8 1] 6 6 (by decide) (by decide) rfl
  exact h)
 have HM0 : Hid (Mod (fun _ => False) w (w.alloc (.cells #[.int .u8 115, .int .u8 105, .int .u8 98, .int .u8 121, .int .u8 97, .int .u8 1] 5))) := Hi ((Mod.refl _ w).alloc _)
 go_wp2_with fail
 obtain ⟨g0, hg0⟩ : ∃ g0, g0 = w.heap.size := ⟨_, rfl⟩
 rw [← hg0] at HO0 ⊢
 have HG0 := Hi hg0
 clear hg0
 generalize w.alloc (.cells #[.int .u8 115, .int .u8 105, .int .u8 98, .int .u8 121, .int .u8 97, .int .u8 1] 5) = w1 at *
 refine (four26_any N (by omega) w1).mono ?_
 rintro e w3 ⟨a3, c3, rfl, hO3, _, hm3⟩
 have HO3 := Hi hO3; have HM3 := Hi (HM0.out.step hm3 fun _ _ e => e)
 have HO1 := Hi (HO0.out.mod hm3 fun _ _ => id)
 clear hO3 hm3
 rw [show (fourL N).length = 4 from rfl] at *
 go_wp2_with (first
  |(at_builtin; refine wpL_append rfl (.tmp 11) (.tmp 15) 23 23 rfl ti24 rfl HO1.out rfl (Src.ofRd ti24.ht 4 c3 HO3.out.rd (by simp [bts]; rfl) (bts_one _)) (by omega) (by unfold maxLen; omega) ?_; intro a4 c4 w4 hO4 hG4 _
    have HO4 : Hid (Mine.Own w4 5 1 a4 10 c4 (bts (arHead N))) := Hi (by unfold arHead; rw [bts_append]; exact hO4)
    have HM4 : Hid (Mod (fun _ => False) w w4) := Hi (HM3.out.step hG4.mod fun b hb e => by
     have h1 : g0 = b := by simpa [blk] using e
     have := HG0.out; omega)
    clear hO4 hG4))
 refine (HSA.out a4 c4 w4 HM4.out HO4.out.rd).mono ?_
 clear HSA HO4 HO3 HO1
 rintro e w5 ⟨rfl, hm5⟩
 have HM5 := Hi (HM4.out.step hm5 fun _ _ e => e)
 clear hm5
 by_cases hmg : b.take 10 = arHead N
 rotate_left
 ·have HX : Hid (openS b = (260, none)) := Hi (by unfold openS; rw [if_neg (by rw [← HNN.out]; exact h16), if_pos (.inr (by rw [← HNN.out]; exact hmg))])
  rw [decide_eq_false hmg]
  clear hmg
  go_wp2_with fail
  refine bodyPost_ret (v := .tuple #[.pointer none, .int .i64 260]) ?_ rfl ⟨.inr ⟨260, HX.out, by decide, rfl⟩, HM5.out⟩
  simp [results, Tryz.results13, go_sem]
 have HMG := Hi hmg
 rw [decide_eq_true hmg]
 clear hmg
 go_wp2_with fail
 refine (HWH.out w5 HM5.out).mono ?_
 clear HWH
 rintro e w6 ⟨rfl, hm6⟩
 have HM6 := Hi (HM5.out.step hm6 fun _ _ e => e)
 clear hm6
 have h4 : 4 ≤ b.length := by rw [← HNN.out]; omega
 by_cases hcr : WholeS b
 rotate_left
 ·have HX : Hid (openS b = (261, none)) := Hi (by unfold openS; rw [← HNN.out, if_neg h16, if_neg (by rintro (h | h); exact h15 h; exact h HMG.out), if_pos (fun h => hcr ⟨h4, by rw [← HNN.out]; exact h⟩)])
  rw [decide_eq_false hcr]
  clear hcr h4
  go_wp2_with fail
  refine bodyPost_ret (v := .tuple #[.pointer none, .int .i64 261]) ?_ rfl ⟨.inr ⟨261, HX.out, by decide, rfl⟩, HM6.out⟩
  simp [results, Tryz.results13, go_sem]
 have HOP : Hid (∀ r, dopen b = r → openS b = match r with | some l => (0, some l) | none => (260, none)) := Hi (by
  intro r hr
  unfold openS
  rw [← HNN.out, if_neg h16, if_neg (by rintro (h | h); exact h15 h; exact h HMG.out), if_neg (fun h => h (by have h5 := hcr.2; rw [← HNN.out] at h5; exact h5)), open_same (by rw [← HNN.out]; omega), hr]
  all_goals (cases r <;> rfl))
 rw [decide_eq_true hcr]
 clear hcr h4
 go_wp2_with fail
 refine (HRE.out w6 HM6.out).mono ?_
 clear HRE
 rintro e w7 ⟨⟨p, es, hd, rfl, hF⟩ | ⟨v, hd, rfl⟩, hm7⟩
 ·have HX := Hi (HOP.out _ hd)
  have HF := hF
  have HM7 := Hi (HM6.out.step hm7 fun _ _ e => e)
  have HF7 : Hid (RFr w w7 p es) := Hi (by
   obtain ⟨na, nc, fa, fc, h1, h2, h3⟩ := hF.ex
   have hz := HM6.out.size
   exact ⟨⟨na, nc, fa, fc, h1, fun b hb => Nat.le_trans hz (h2 b hb), fun b hb => Nat.le_trans hz (h3 b hb)⟩, Nat.le_trans hz hF.lo, fun q hq => ⟨Nat.le_trans hz (hF.ents q hq).1, (hF.ents q hq).2⟩, hF.ok⟩)
  clear hF HF hm7 hd
  go_wp2_with fail
  refine bodyPost_ret (v := .tuple #[.pointer (some ⟨p, 0, none⟩), .int .i64 0]) ?_ rfl ⟨.inl ⟨p, es, HX.out, rfl, HF7.out⟩, HM7.out⟩
  simp [results, Tryz.results13, go_sem]
 ·have HX : Hid (openS b = (260, none)) := Hi (HOP.out none hd)
  have HM7 := Hi (HM6.out.step hm7 fun _ _ e => e)
  clear hm7 hd
  go_wp2_with fail
  refine bodyPost_ret (v := .tuple #[.pointer none, .int .i64 260]) ?_ rfl ⟨.inr ⟨260, HX.out, by decide, rfl⟩, HM7.out⟩
  simp [results, Tryz.results13, go_sem]
end Go.Proofs.YtjoiaejbahdjkaaGreat
