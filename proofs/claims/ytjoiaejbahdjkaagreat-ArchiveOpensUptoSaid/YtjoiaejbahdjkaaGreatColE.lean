/-
  The document's Laid, Sizes, Way, Encode: walked.
-/
import Derived.Test.YtjoiaejbahdjkaaGreatCqE
namespace Go.Proofs.YtjoiaejbahdjkaaGreat
open Go Go.RowKit Go.Mine
set_option linter.unusedVariables false
set_option maxHeartbeats 4000000
set_option maxRecDepth 100000
def LaidPost (c : List Nat) (w : World) (e : Ending) (w' : World) : Prop :=
 ∃ g a1 c1 a2 c2 a3 c3 a4 c4, e = .returned (.slice (some ⟨g, 0, none⟩) 4 4) ∧ w'.heap[g]? = some (.cells #[.slice a1 (layP c).length c1, .slice a2 (layD c).length c2, .slice a3 (layR c).length c3, .slice a4 (layK c).length c4] 23 (0, 0)) ∧
  Rd w' a1 (bts (layP c)) ∧ Rd w' a2 (bts (layD c)) ∧ Rd w' a3 (bts (layR c)) ∧ Rd w' a4 (bts (layK c)) ∧ Mod (fun _ => False) w w'
theorem laidR_any (a : Option Addr) (d : Nat) (c : List Nat) (w : World) (hr : Rd w a (u32s c)) (hu : U32 c) (hn : c.length < 2 ^ 32) :
 Calls Tryz.prog 137 #[.slice a c.length d] w (LaidPost c w) := by
 have HP := Hi (plainR_any a d c w hr hu hn)
 have HD := Hi (fun W (m : Mod (fun _ => False) w W) => deltaR_any a d c W (hr.mod m (fun _ _ => id)) hu hn)
 have HRN := Hi (fun W (m : Mod (fun _ => False) w W) => runR_any a d c W (hr.mod m (fun _ _ => id)) hu hn)
 have HK := Hi (fun W (m : Mod (fun _ => False) w W) => packedR_any a d c W (hr.mod m (fun _ _ => id)) hu hn)
 clear hr hu
 have HPOST : Hid (∀ e w', LaidPost c w e w' → LaidPost c w e w') := Hi (fun _ _ h => h)
 go_enter Tryz.func137, Tryz.ntmps137
 go_wp2_with fail
 refine HP.out.mono ?_
 rintro e w1 ⟨a1, c1, rfl, h1⟩
 have H1 := Hi h1
 clear h1
 go_wp2_with fail
 refine (HD.out w1 H1.out.md).mono ?_
 rintro e w2 ⟨a2, c2, rfl, h2⟩
 have H2 := Hi h2; have M2 := Hi (H1.out.md.trans h2.md)
 clear h2
 go_wp2_with fail
 refine (HRN.out w2 M2.out).mono ?_
 rintro e w3 ⟨a3, c3, rfl, h3⟩
 have H3 := Hi h3; have M3 := Hi (M2.out.trans h3.md)
 clear h3
 go_wp2_with fail
 refine (HK.out w3 M3.out).mono ?_
 rintro e w4 ⟨a4, c4, rfl, h4⟩
 have H4 := Hi h4; have M4 := Hi (M3.out.trans h4.md)
 clear h4
 go_wp2_with fail
 go_ret
 have m5 : ∀ o, Mod (fun _ => False) w4 (w4.alloc o) := fun o => (Mod.refl _ w4).alloc o
 refine ⟨w4.heap.size, a1, c1, a2, c2, a3, c3, a4, c4, rfl, heap_alloc_new w4 _, ?_, ?_, ?_, ?_, M4.out.alloc _⟩
 ·exact H1.out.own.rd.mod (H2.out.md.trans (H3.out.md.trans (H4.out.md.trans (m5 _)))) (fun _ _ => id)
 ·exact H2.out.own.rd.mod (H3.out.md.trans (H4.out.md.trans (m5 _))) (fun _ _ => id)
 ·exact H3.out.own.rd.mod (H4.out.md.trans (m5 _)) (fun _ _ => id)
 ·exact H4.out.own.rd.mod (m5 _) (fun _ _ => id)
def fourI (l : List Nat) : Value := .agg #[.int .i64 (l.getD 0 0 : Nat), .int .i64 (l.getD 1 0 : Nat), .int .i64 (l.getD 2 0 : Nat), .int .i64 (l.getD 3 0 : Nat)]
theorem sizesR_any (a : Option Addr) (d : Nat) (c : List Nat) (w : World) (hr : Rd w a (u32s c)) (hu : U32 c) (hn : c.length < 2 ^ 32) :
 Calls Tryz.prog 157 #[.slice a c.length d] w fun e w' => e = .returned (fourI (szs c)) ∧ Mod (fun _ => False) w w' := by
 have HS : Hid (fourI (szs c) = .agg #[.int .i64 ((layP c).length : Nat), .int .i64 ((layD c).length : Nat), .int .i64 ((layR c).length : Nat), .int .i64 ((layK c).length : Nat)]) := Hi rfl
 have HL := Hi (fun W (m : Mod (fun _ => False) w W) => laidR_any a d c W (hr.mod m (fun _ _ => id)) hu hn)
 clear hr hu
 go_enter Tryz.func157, Tryz.ntmps157
 go_wp2_with fail
 have m0 : Mod (fun _ => False) w (w.alloc (.cells #[.int .i64 0, .int .i64 0, .int .i64 0, .int .i64 0] 215)) := (Mod.refl _ w).alloc _
 have hb := heap_alloc_new w (.cells #[.int .i64 0, .int .i64 0, .int .i64 0, .int .i64 0] 215)
 refine (HL.out _ m0).mono ?_
 rintro e w1 ⟨g, a1, c1, a2, c2, a3, c3, a4, c4, rfl, hg, -, -, -, -, hm⟩
 have hb1 := hm.at hb id
 have HM := Hi (m0.trans hm)
 clear hb m0 hm HL
 generalize (layP c).length = n1 at *
 generalize (layD c).length = n2 at *
 generalize (layR c).length = n3 at *
 generalize (layK c).length = n4 at *
 have x0 := cell_at (j := 0) hg rfl; have x1 := cell_at (j := 1) hg rfl; have x2 := cell_at (j := 2) hg rfl; have x3 := cell_at (j := 3) hg rfl
 have f0 := frozen_at (j := 0) hb1; have f1 := frozen_at (j := 1) hb1; have f2 := frozen_at (j := 2) hb1; have f3 := frozen_at (j := 3) hb1
 have y0 := cell_at (j := 0) hb1 rfl; have y1 := cell_at (j := 1) hb1 rfl; have y2 := cell_at (j := 2) hb1 rfl; have y3 := cell_at (j := 3) hb1 rfl
 have HB := Hi hb1
 clear hb1 hg
 generalize hBB : w.heap.size = B at *
 have HLT : Hid (¬ B < w.heap.size) := Hi (by omega)
 clear hBB
 go_wp2_with fail
 refine wp_region_ord (fun w' => w'.cell? ⟨g, 0, none⟩ = some (.slice a1 n1 c1) ∧ w'.cell? ⟨g, 1, none⟩ = some (.slice a2 n2 c2) ∧ w'.cell? ⟨g, 2, none⟩ = some (.slice a3 n3 c3) ∧ w'.cell? ⟨g, 3, none⟩ = some (.slice a4 n4 c4)) [(0, 0), (0, 1), (1, 2), (0, 3), (0, 4), (0, 5), (1, 6), (0, 7), (0, 8), (0, 9), (1, 10), (0, 11), (0, 12), (0, 13), (1, 14), (0, 15), (0, 16), (3, 17)] (by kernel_rfl) (by kernel_rfl) ?_
 go_wp2_with (first
  |(refine ord_pure rfl rfl rfl (fun K hK => ?_); go_big_quiet_op; refine hK _ ?_; clear hK K)
  |(refine ord_held rfl rfl rfl (⟨x0, x1, x2, x3⟩) (fun K hK => ?_); apply Exists.intro; refine ⟨fun w' hs => ?_, hK _ ?_⟩; (revert hs; dsimp only; (try simp only [and_imp]); intros; go_simp; rfl); clear hK K)
  |(refine ord_drop rfl rfl (fun K hK => ?_))
  |(refine ord_nil ?_))
 have q1 := heap_setCell_at (j := 0) (.int .i64 (n1 : Nat)) HB.out
 have q2 := heap_setCell_at (j := 1) (.int .i64 (n2 : Nat)) q1
 have q3 := heap_setCell_at (j := 2) (.int .i64 (n3 : Nat)) q2
 have q4 := heap_setCell_at (j := 3) (.int .i64 (n4 : Nat)) q3
 have M4 : Hid (Mod (fun _ => False) w ((((w1.setCell ⟨B, 0, none⟩ (.int .i64 (n1 : Nat))).setCell ⟨B, 1, none⟩ (.int .i64 (n2 : Nat))).setCell ⟨B, 2, none⟩ (.int .i64 (n3 : Nat))).setCell ⟨B, 3, none⟩ (.int .i64 (n4 : Nat)))) :=
  Hi ((((HM.out.setCell (p := ⟨B, 0, none⟩) (fun h => HLT.out h) _).setCell (p := ⟨B, 1, none⟩) (fun h => HLT.out h) _).setCell (p := ⟨B, 2, none⟩) (fun h => HLT.out h) _).setCell (p := ⟨B, 3, none⟩) (fun h => HLT.out h) _)
 have p0 := cell_at (j := 0) q4 rfl; have p1 := cell_at (j := 1) q4 rfl; have p2 := cell_at (j := 2) q4 rfl; have p3 := cell_at (j := 3) q4 rfl
 generalize (((w1.setCell ⟨B, 0, none⟩ (.int .i64 (n1 : Nat))).setCell ⟨B, 1, none⟩ (.int .i64 (n2 : Nat))).setCell ⟨B, 2, none⟩ (.int .i64 (n3 : Nat))).setCell ⟨B, 3, none⟩ (.int .i64 (n4 : Nat)) = w5 at *
 refine bodyPost_ret (v := fourI (szs c)) ?_ rfl ⟨rfl, M4.out.drew⟩
 rw [HS.out]
 simp [results, Tryz.f157, go_sem, p0, p1, p2, p3]
theorem wayR_any (a : Option Addr) (d : Nat) (c : List Nat) (w : World) (hr : Rd w a (u32s c)) (hu : U32 c) (hn : c.length < 2 ^ 32) :
 Calls Tryz.prog 136 #[.slice a c.length d] w fun e w' => e = .returned (.int .i64 (wayN c : Nat)) ∧ Mod (fun _ => False) w w' := by
 have HS := Hi (sizesR_any a d c w hr hu hn)
 have HWN : Hid (wayN c = best 1 0 (szs c) (szs c).tail + 1) := Hi rfl
 have hl4 : (szs c).length = 4 := rfl
 clear hr hu
 generalize szs c = s at *
 have hf : fourI s = .agg #[.int .i64 (s.getD 0 0 : Nat), .int .i64 (s.getD 1 0 : Nat), .int .i64 (s.getD 2 0 : Nat), .int .i64 (s.getD 3 0 : Nat)] := rfl
 rw [hf] at HS
 clear hf
 go_enter Tryz.func136, Tryz.ntmps136
 go_wp2_with fail
 refine HS.out.mono ?_
 rintro e w1 ⟨rfl, hm⟩
 have HM := Hi hm
 clear hm HS
 go_wp2_with fail
 have hcell : ∀ j, j < 4 → (w1.alloc (.cells #[.int .i64 (s.getD 0 0 : Nat), .int .i64 (s.getD 1 0 : Nat), .int .i64 (s.getD 2 0 : Nat), .int .i64 (s.getD 3 0 : Nat)] 215)).cell? ⟨w1.heap.size, j, none⟩ = some (.int .i64 (s.getD j 0 : Nat)) := fun j hj => by
  have h0 := heap_alloc_new w1 (.cells #[.int .i64 (s.getD 0 0 : Nat), .int .i64 (s.getD 1 0 : Nat), .int .i64 (s.getD 2 0 : Nat), .int .i64 (s.getD 3 0 : Nat)] 215)
  match j, hj with
  | 0, _ => exact cell_at h0 rfl
  | 1, _ => exact cell_at h0 rfl
  | 2, _ => exact cell_at h0 rfl
  | 3, _ => exact cell_at h0 rfl
 have hmq : Mod (fun _ => False) w (w1.alloc (.cells #[.int .i64 (s.getD 0 0 : Nat), .int .i64 (s.getD 1 0 : Nat), .int .i64 (s.getD 2 0 : Nat), .int .i64 (s.getD 3 0 : Nat)] 215)) := HM.out.alloc _
 obtain ⟨n0, n1, n2, n3, rfl⟩ : ∃ n0 n1 n2 n3, s = [n0, n1, n2, n3] := by
  match s, hl4 with
  | [n0, n1, n2, n3], _ => exact ⟨n0, n1, n2, n3, rfl⟩
 simp only [List.getD_cons_zero, List.getD_cons_succ] at hmq hcell
 simp only [List.getElem_cons_zero, List.getElem_cons_succ]
 generalize w1.alloc (.cells #[.int .i64 (n0 : Nat), .int .i64 (n1 : Nat), .int .i64 (n2 : Nat), .int .i64 (n3 : Nat)] 215) = wq at *
 have HC := Hi hcell; have HMQ := Hi hmq
 generalize [n0, n1, n2, n3] = s at *
 generalize w1.heap.size = B at *
 clear hcell hmq
 go_loopw [4, 5] (fun bv iv wr => ∃ i b : Nat, iv = .int .i64 i ∧ 1 ≤ i ∧ i ≤ 4 ∧ bv = .int .i64 b ∧ b < 4 ∧ Hid (wayN c = best i b s (s.drop i) + 1) ∧ Hid (Mod (fun _ => False) wq wr)) (fun _ iv _ => 4 - (intOf iv).toNat)
 case atStart => exact ⟨1, 0, rfl, by omega, by omega, rfl, by omega, Hi (by rw [HWN.out, List.drop_one]), Hi (Mod.refl _ _)⟩
 case round =>
  obtain ⟨i, b, rfl, hi1, hi4, rfl, hb4, hB, hm⟩ := hrel
  by_cases hlt : i < 4
  ·have x0 := hm.out.cell (HC.out i hlt) id
   have x1 := hm.out.cell (HC.out b hb4) id
   have hdrop : s.drop i = s.getD i 0 :: s.drop (i + 1) := by
    rw [List.drop_eq_getElem_cons (by omega), List.getD_eq_getElem?_getD, List.getElem?_eq_getElem (by omega)]; rfl
   have HB : Hid (wayN c = best (i + 1) (if s.getD i 0 < s.getD b 0 then i else b) s (s.drop (i + 1)) + 1) := Hi (by rw [hB.out, hdrop]; rfl)
   clear hdrop hB
   generalize s.getD i 0 = u at *
   generalize s.getD b 0 = v at *
   go_wp2_with fail
   by_cases huv : u < v
   ·rw [if_pos huv] at HB
    refine wp_region_ord (fun w' => w'.cell? ⟨B, i, none⟩ = some (.int .i64 (u : Nat)) ∧ w'.cell? ⟨B, b, none⟩ = some (.int .i64 (v : Nat))) [(0, 0), (0, 1), (1, 2), (0, 3), (0, 4), (1, 5), (0, 6)] (by kernel_rfl) (by kernel_rfl) ?_
    go_wp2_with (first
     |(refine ord_pure rfl rfl rfl (fun K hK => ?_); go_big_quiet_op; refine hK _ ?_; clear hK K)
     |(refine ord_held rfl rfl rfl (⟨x0, x1⟩) (fun K hK => ?_); apply Exists.intro; refine ⟨fun w' hs => ?_, hK _ ?_⟩; (revert hs; dsimp only; (try simp only [and_imp]); intros; go_simp; rfl); clear hK K)
     |(refine ord_nil ?_))
    go_roundw
    case rel => exact ⟨i + 1, i, by go_num, by omega, hlt, rfl, hlt, HB, Hi hm.out.drew⟩
    case measure => simp [intOf]; omega
   ·rw [if_neg huv] at HB
    refine wp_region_ord (fun w' => w'.cell? ⟨B, i, none⟩ = some (.int .i64 (u : Nat)) ∧ w'.cell? ⟨B, b, none⟩ = some (.int .i64 (v : Nat))) [(0, 0), (0, 1), (1, 2), (0, 3), (0, 4), (1, 5), (0, 6)] (by kernel_rfl) (by kernel_rfl) ?_
    go_wp2_with (first
     |(refine ord_pure rfl rfl rfl (fun K hK => ?_); go_big_quiet_op; refine hK _ ?_; clear hK K)
     |(refine ord_held rfl rfl rfl (⟨x0, x1⟩) (fun K hK => ?_); apply Exists.intro; refine ⟨fun w' hs => ?_, hK _ ?_⟩; (revert hs; dsimp only; (try simp only [and_imp]); intros; go_simp; rfl); clear hK K)
     |(refine ord_nil ?_))
    go_roundw
    case rel => exact ⟨i + 1, b, by go_num, by omega, hlt, rfl, hb4, HB, Hi hm.out.drew⟩
    case measure => simp [intOf]; omega
  ·have hi : i = 4 := by omega
   have HE : Hid (wayN c = b + 1) := Hi (by rw [hB.out, hi, List.drop_of_length_le (by omega)]; rfl)
   clear hB hi
   go_wp2_with fail
   go_ret
   exact ⟨ret_i64 (by rw [HE.out]; push_cast; rfl), HMQ.out.trans hm.out⟩
theorem layR_len : ∀ (m : Nat) (c : List Nat), c.length ≤ m → U32 c → c.length < 2 ^ 32 → (layR c).length ≤ 20 * c.length
 | m, [], _, _, _ => by unfold layR; rw [rns]; simp
 | 0, x :: r, hm, _, _ => by simp at hm
 | m + 1, x :: r, hm, hu, hn => by
   have h0 := layR_at (x :: r) 0 (by simp)
   obtain ⟨hT1, hT2, -⟩ := run_at (x :: r) 0 (by simp)
   have hx : x < 2 ^ 32 := hu x (by simp)
   rw [List.drop_zero] at h0
   rw [h0]
   have ih := layR_len m ((x :: r).drop (0 + runT (x :: r) 0)) (by simp only [List.length_drop, List.length_cons] at hm ⊢; omega) (fun y hy => hu y (List.mem_of_mem_drop hy)) (by simp only [List.length_drop]; omega)
   have h1 := lebl_len64 x (by omega)
   have h2 := lebl_len64 (runT (x :: r) 0) (by omega)
   rw [List.length_drop] at ih
   simp only [List.length_append, List.getElem_cons_zero]
   omega
theorem layW_len {c : List Nat} (hu : U32 c) (hn : c.length ≤ 65536) (w : Nat) : (layW w c).length ≤ 2000000 := by
 unfold layW
 split
 ·have := flat10 c (fun n h => by have := hu n h; omega)
  show (layP c).length ≤ _
  unfold layP
  omega
 ·have := flat10 (dlt none c) (fun n h => by have := dlt_lt c none hu (fun q e => by cases e) n h; omega)
  rw [dlt_len] at this
  show (layD c).length ≤ _
  unfold layD
  omega
 ·have := layR_len _ c (Nat.le_refl _) hu (by omega)
  omega
 ·unfold layK
  rw [List.length_cons, rowUp_len]
  have := Nat.mul_le_mul_left c.length (wideN_le hu)
  omega
theorem encR_any (a : Option Addr) (d : Nat) (c : List Nat) (w : World) (hr : Rd w a (u32s c)) (hu : U32 c) (hn : c.length ≤ 65536) :
 Calls Tryz.prog 118 #[.slice a c.length d] w fun e w' => ∃ a' c', e = .returned (.tuple #[.slice a' (encL c).length c', .int .i64 0]) ∧ BOwn w w' a' c' (encL c) := by
 have HWY := Hi (wayR_any a d c w hr hu (by omega))
 have HL := Hi (fun W (m : Mod (fun _ => False) w W) => laidR_any a d c W (hr.mod m (fun _ _ => id)) hu (by omega))
 have hw4 := wayN_range c
 have HENC : Hid (encL c = UInt8.ofNat (wayN c) :: layW (wayN c) c) := Hi rfl
 have HLEN := Hi (layW_len hu hn (wayN c))
 clear hr hu
 go_enter Tryz.func118, Tryz.ntmps118
 go_wp2_with fail
 refine HWY.out.mono ?_
 rintro e w1 ⟨rfl, hm⟩
 have HM := Hi hm
 clear hm HWY
 generalize wayN c = v at *
 go_wp2_with fail
 have h5 : BOwn w (w1.alloc (.cells #[.int .u8 (v : Nat)] 5)) (some ⟨w1.heap.size, 0, none⟩) 1 [UInt8.ofNat v] := by
  have h1 := Mine.Own.made w1 5 1 #[.int .u8 (v : Nat)] 1 1 (Nat.le_refl _) (by unfold maxLen; omega) rfl
  refine ⟨?_, fun b hb => by cases hb; exact HM.out.size, HM.out.alloc _⟩
  have e : bts [UInt8.ofNat v] = [.int .u8 (v : Nat)] := by simp [bts]; omega
  rw [e]
  exact h1
 generalize w1.heap.size = G at *
 have HB5 := Hi h5
 clear h5
 generalize w1.alloc (.cells #[.int .u8 (v : Nat)] 5) = w5 at *
 refine (HL.out w5 HB5.out.md).mono ?_
 rintro e w2 ⟨g, a1, c1, a2, c2, a3, c3, a4, c4, rfl, hg, r1, r2, r3, r4, hm⟩
 have hcell : ∃ av cv, w2.cell? ⟨g, v - 1, none⟩ = some (.slice av (layW v c).length cv) ∧ Rd w2 av (bts (layW v c)) := by
  match v, hw4 with
  | 1, _ => exact ⟨a1, c1, cell_at hg rfl, r1⟩
  | 2, _ => exact ⟨a2, c2, cell_at hg rfl, r2⟩
  | 3, _ => exact ⟨a3, c3, cell_at hg rfl, r3⟩
  | 4, _ => exact ⟨a4, c4, cell_at hg rfl, r4⟩
 obtain ⟨av, cv, x0, hrd⟩ := hcell
 have hv1 : ((v : Int) - 1).toNat = v - 1 := by omega
 have HB6 := Hi (HB5.out.mod0 hm)
 have HRD := Hi hrd
 clear hg r1 r2 r3 r4 hm hrd HB5
 generalize layW v c = l at *
 have hll : l.length ≤ 2000000 := HLEN.out
 go_wp2_with (at_builtin; refine wpL_append rfl (.tmp 14) (.tmp 20) 23 23 rfl ti24 rfl HB6.out.own rfl (Src.ofRd ti24.ht _ _ HRD.out (by simp) (bts_one _)) (by show (1 + l.length) * _ ≤ _; omega) (by show 1 + l.length ≤ _; unfold maxLen; omega) ?_; intro a6 c6 w6 hO6 hG6 _
              have HO6 := Hi (HB6.out.app hG6 hO6 rfl rfl); clear hO6 hG6)
 refine bodyPost_ret (v := .tuple #[.slice a6 (1 + l.length) c6, .int .i64 0]) (by simp [results, Tryz.results118, go_sem]) rfl ⟨a6, c6, ?_, ?_⟩
 ·rw [HENC.out, List.length_cons, Nat.add_comm]
 ·rw [HENC.out]; exact HO6.out
end Go.Proofs.YtjoiaejbahdjkaaGreat
