/-
  slices.Repeat on one number: walked.
-/
import Derived.Test.YtjoiaejbahdjkaaGreatCqC
import Derived.Test.YtjoiaejbahdjkaaGreatInsK
import Derived.Test.YtjoiaejbahdjkaaGreatLayMu
import Derived.Test.YtjoiaejbahdjkaaGreatCqE
namespace Go.Proofs.YtjoiaejbahdjkaaGreat
open Go Go.RowKit Go.Mine
set_option linter.unusedVariables false
set_option maxHeartbeats 4000000
set_option maxRecDepth 100000
theorem mk32 (n : Nat) (hn : n ≤ 2 ^ 40) (w : World) : (Instr.makeSlice 162 (.int .i64 (n : Nat)) (.int .i64 (n : Nat))).run Tryz.prog w = .ok (.slice (some ⟨w.heap.size, 0, none⟩) n n) (w.alloc (.cells (Array.replicate n (.int .u32 0)) 58)) :=
 mkZ (z := .int .u32 0) (bytes := 4) (by kernel_rfl) (by kernel_rfl) rfl n (by omega) (by omega) w
theorem mul1_any (n : Nat) (hn : n < 2 ^ 64) (w : World) : Calls Tryz.prog 201 #[.int .u64 1, .int .u64 n] w fun e w' => e = .returned (.tuple #[.int .u64 0, .int .u64 n]) ∧ w = w' := by
 have h := Any.bits_Mul lays212 1 n (by omega) hn w
 rw [show 1 * n / 18446744073709551616 = 0 by omega, show 1 * n % 18446744073709551616 = n by omega] at h
 exact h.mono fun e w' h => ⟨h.1, h.2.symm⟩
def rpX (q n m : Nat) : List Value := u32s (List.replicate m q ++ List.replicate (n - m) 0)
theorem rpX_step {q n m k : Nat} (h : m + k ≤ n) : (rpX q n m).take (m * 1) ++ u32s (List.replicate k q) ++ (rpX q n m).drop ((m + k) * 1) = rpX q n (m + k) := by
 have h1 : (rpX q n m).take (m * 1) = u32s (List.replicate m q) := by
  rw [Nat.mul_one, rpX, u32s, ← List.map_take, List.take_append_of_le_length (by simp), List.take_of_length_le (by simp)]; rfl
 have h2 : (rpX q n m).drop ((m + k) * 1) = u32s (List.replicate (n - (m + k)) 0) := by
  rw [Nat.mul_one, rpX, u32s, ← List.map_drop, List.drop_append, List.drop_eq_nil_of_le (by simp), List.nil_append, List.length_replicate, List.drop_replicate]
  rw [show n - m - (m + k - m) = n - (m + k) by omega]; rfl
 rw [h1, h2, rpX, ← List.replicate_append_replicate]
 simp [u32s]
theorem rpX_zero (q n : Nat) : rpX q n 0 = ((Array.replicate n (Value.int .u32 0)).toList.take (n * 1)) := by
 rw [Nat.mul_one, rpX, Array.toList_replicate, List.take_of_length_le (by simp)]
 simp [u32s]
theorem rpX_all (q n : Nat) : rpX q n n = u32s (List.replicate n q) := by simp [rpX]
theorem rpX_pre (q : Nat) {n m k : Nat} (h : k ≤ m) : (rpX q n m).take k = u32s (List.replicate k q) := by
 rw [rpX, u32s, ← List.map_take, List.take_append_of_le_length (by simp; omega), List.take_replicate, Nat.min_eq_left h]; rfl
theorem u32s_one (l : List Nat) : ∀ u ∈ u32s l, u.oneCell' = true := by
 intro u hu
 obtain ⟨n, _, rfl⟩ := List.mem_map.1 hu
 rfl
theorem repeat_any (a : Addr) (c0 q n : Nat) (w : World) (hr : Rd w (some a) [.int .u32 (q : Nat)]) (hn : n ≤ 65536) :
 Calls Tryz.prog 196 #[.slice (some a) 1 c0, .int .i64 n] w (RPost (List.replicate n q) w) := by
 have HR := Hi hr
 clear hr
 have hneg : ¬ ((n : Int) < 0) := by omega
 by_cases h0 : n = 0
 ·subst h0
  have hmk : (Instr.makeSlice 162 (.int .i64 0) (.int .i64 0)).run Tryz.prog w = .ok (.slice (some ⟨w.heap.size, 0, none⟩) 0 0) (w.alloc (.cells (Array.replicate 0 (.int .u32 0)) 58)) := mk32 0 (by omega) w
  have hcp : ∀ W : World, (Builtin.copy_ #[162, 162] 3 #[.slice (some ⟨w.heap.size, 0, none⟩) 0 0, .slice (some a) 1 c0]).run Tryz.prog W = .ok (.int .i64 0) W := fun W => by
   have h1 := run_copy_K (P := Tryz.prog) W 162 162 3 58 1 w.heap.size 0 0 0 a 1 c0 0 [] (by kernel_rfl) (by kernel_rfl) rfl rfl (fun j v h => by simp at h) (fun j h => by simp at h) (fun j h => by simp at h) (fun v h => by cases h)
   exact h1
  go_enter Tryz.func196, Tryz.ntmps196
  go_wp2_with (first
   |(go_at_call 201; refine (mul1_any 0 (by omega) _).mono ?_; rintro e w' ⟨rfl, rfl⟩))
  go_loopw [8] (fun mv wr => mv = .int .i64 0 ∧ Hid (wr = w.alloc (.cells (Array.replicate 0 (.int .u32 0)) 58))) (fun _ _ => 0)
  case atStart => exact ⟨rfl, Hi rfl⟩
  case round =>
   obtain ⟨rfl, hW⟩ := hrel
   go_wp2_with fail
   go_ret
   rw [hW.out]
   refine ⟨some ⟨w.heap.size, 0, none⟩, 0, rfl, ⟨?_, fun b hb => ?_, (Mod.refl _ w).alloc _⟩⟩
   ·have h1 := Mine.Own.made w 58 1 (Array.replicate 0 (.int .u32 0)) 0 0 (Nat.le_refl _) (by unfold maxLen; omega) (by simp)
    simpa [u32s] using h1
   ·have : w.heap.size = b := by simpa [blk] using hb
    omega
 ·have hmk := mk32 n (by omega) w
  have hO0 : Mine.Own (w.alloc (.cells (Array.replicate n (.int .u32 0)) 58)) 58 1 (some ⟨w.heap.size, 0, none⟩) n n (rpX q n 0) := by
   rw [rpX_zero]; exact Mine.Own.made w 58 1 _ n n (Nat.le_refl _) (by unfold maxLen; omega) (by simp)
  have HO0 := Hi hO0
  have HM0 : Hid (Mod (fun _ => False) w (w.alloc (.cells (Array.replicate n (.int .u32 0)) 58))) := Hi ((Mod.refl _ w).alloc _)
  have HR0 := Hi (HR.out.mod HM0.out (fun _ _ => id))
  clear hO0
  go_enter Tryz.func196, Tryz.ntmps196
  go_wp2_with (first
   |(go_at_call 201; refine (mul1_any n (by omega) _).mono ?_; rintro e w' ⟨rfl, rfl⟩)
   |(refine wpL_copyK (lo := 0) (m := 1) (us := u32s (List.replicate 1 q)) rfl (.tmp 31) (.tmp 32) rfl tiU32 rfl rfl HO0.out (by omega) rfl (Nat.min_eq_left (by omega)).symm (by omega) HR0.out (u32s_one _) ?_; intro w1 hO1 hM1; rw [rpX_step (by omega)] at hO1; have HO1 := Hi hO1; have HM1 := Hi (HM0.out.step hM1 (fun b hb e => by omega)); clear hO1 hM1))
  obtain ⟨B, hB⟩ : ∃ B, B = w.heap.size := ⟨_, rfl⟩
  rw [← hB] at HO1 ⊢
  have HB := Hi hB
  clear hB hmk HO0 HM0 HR0
  go_loopw [8] (fun mv wr => ∃ m : Nat, mv = .int .i64 m ∧ 1 ≤ m ∧ m ≤ n ∧ Hid (Mine.Own wr 58 1 (some ⟨B, 0, none⟩) n n (rpX q n m)) ∧ Hid (Mod (fun _ => False) w wr)) (fun mv _ => n - (intOf mv).toNat)
  case atStart => exact ⟨1, rfl, by omega, by omega, HO1, HM1⟩
  case round =>
   obtain ⟨m, rfl, hm1, hmn, hO, hM⟩ := hrel
   by_cases hlt : m < n
   ·have hs1 : ∀ W : World, (Instr.slice 162 (.slice (some ⟨B, 0, none⟩) n n) (some (.int .i64 m)) none none).run Tryz.prog W = .ok (.slice (some ⟨B, m * 1, none⟩) (n - m) (n - m)) W := lo_slice tiU32 B n n m (by omega) (by omega)
    have hs2 : ∀ W : World, (Instr.slice 162 (.slice (some ⟨B, 0, none⟩) n n) none (some (.int .i64 m)) none).run Tryz.prog W = .ok (.slice (some ⟨B, 0, none⟩) m n) W := hi_slice tiU32 (some ⟨B, 0, none⟩) n n m (by omega)
    obtain ⟨k, hk⟩ : ∃ k, k = Nat.min m (n - m) := ⟨_, rfl⟩
    have hk0 : 0 < k := by rw [hk]; simp only [Nat.min_def]; split <;> omega
    have hkm : k ≤ m := by rw [hk]; exact Nat.min_le_left _ _
    have hkn : m + k ≤ n := by have : k ≤ n - m := by rw [hk]; exact Nat.min_le_right _ _
                               omega
    have HK := Hi hk
    have HRP : Hid (Rd wr.drew (some ⟨B, 0, none⟩) (u32s (List.replicate k q))) := Hi (by
     rw [← rpX_pre q (n := n) (m := m) hkm]
     exact hO.out.drew.rd.take k)
    clear hk
    rename World => wz
    go_wp2_with fail
    refine wp_region_ord (fun w' => True) [(0, 0), (0, 1), (0, 2), (0, 3), (0, 4), (0, 5), (0, 6), (3, 7), (0, 8), (0, 9)] (by kernel_rfl) (by kernel_rfl) ?_
    go_wp2_with (first
     |(refine ord_drop rfl rfl (fun K hK => ?_)
       refine wpO_copyK (lo := m) (m := k) (us := u32s (List.replicate k q)) (dl := n - m) (dc := n - m) (.tmp 41) (.tmp 44) rfl tiU32 (by rw [Nat.mul_one]; rfl) rfl hO.out.drew hkn (by simp) HK.out hk0 HRP.out (u32s_one _) ?_
       intro w3 hO3 hM3
       rw [rpX_step hkn] at hO3
       refine hK _ _ ?_; clear hK K
       have HO3 := Hi hO3; have HM3 := Hi ((hM.out.drew).step hM3 (fun b hb e => by have := HB.out; omega)); clear hO3 hM3)
     |(refine ord_pure rfl rfl rfl (fun K hK => ?_); go_big_quiet_op; refine hK _ ?_; clear hK K)
     |(refine ord_drop rfl rfl (fun K hK => ?_))
     |(refine ord_nil ?_))
    go_roundw
    case rel => exact ⟨m + k, by go_num, by omega, by omega, HO3, HM3⟩
    case measure => simp [intOf]; omega
   ·obtain rfl : m = n := by omega
    go_wp2_with fail
    go_ret
    refine ⟨some ⟨B, 0, none⟩, m, by simp, ⟨?_, fun b hb => ?_, hM.out⟩⟩
    ·have h1 := hO.out
     rw [rpX_all] at h1
     simpa using h1
    ·have := HB.out
     have : B = b := by simpa [blk] using hb
     omega
end Go.Proofs.YtjoiaejbahdjkaaGreat
/-
  The program's reading of a column by runs: walked.
-/
namespace Go.Proofs.YtjoiaejbahdjkaaGreat
open Go Go.RowKit Go.Mine
set_option linter.unusedVariables false
set_option maxHeartbeats 4000000
set_option maxRecDepth 100000
theorem rrGo_nil (f m : Nat) : rrGo f m [] = [] := by cases f <;> simp [rrGo]
theorem stNum_bad (l : List UInt8) (at_ : Nat) {f : Nat} (h : f ≠ 0) : stNum l at_ f = (0, at_, f) := by rw [stNum, if_pos h]
theorem rrGo_on (f m : Nat) {l : List UInt8} {x k1 n k2 : Nat} (h0 : l ≠ []) (h1 : getL l = (x, k1, 0)) (h2 : getL (l.drop k1) = (n, k2, 0)) (hx : x < 2 ^ 32) (hn : n ≤ m) :
 rrGo (f + 1) m l = List.replicate n x ++ rrGo f (m - n) (l.drop (k1 + k2)) := by
 rw [rrGo, h1]
 simp only [h2]
 rw [if_neg (by rintro (h | h | h | h | h); exact h0 h; exact h rfl; exact h rfl; omega; omega), List.drop_drop]
theorem rrGo_off (f m : Nat) {l : List UInt8} (h : (getL l).2.2 ≠ 0 ∨ (getL (l.drop (getL l).2.1)).2.2 ≠ 0 ∨ 2 ^ 32 ≤ (getL l).1 ∨ m < (getL (l.drop (getL l).2.1)).1) : rrGo f m l = [] := by
 cases f with
 | zero => rfl
 | succ f => rw [rrGo, if_pos (.inr h)]
theorem readP3_any (a : Option Addr) (d rows : Nat) (l : List UInt8) (w : World) (hr : Rd w a (bts l)) (hl : l.length < 2 ^ 40) (hnil : a = none → d = 0) (hrows : rows ≤ 65536) :
 Calls Tryz.prog 182 #[.slice a l.length d, .int .i64 rows] w (RPost (rrGo l.length rows l) w) := by
 have HN := Hi (newReader_any a d l w hr hl hnil)
 clear hr hnil
 go_enter Tryz.func182, Tryz.ntmps182
 go_wp2_with fail
 refine HN.out.mono ?_
 rintro e w1 ⟨p, ra, rc, rfl, hRD, hp, hm, _⟩
 have HR := Hi hRD; have HP := Hi hp; have HM := Hi hm
 clear hRD hp hm HN
 go_wp2_with fail
 go_loopw [5, 7, 8, 9] (fun cv _ _ _ wr => ∃ (c : List Nat) (at_ f : Nat) (oa : Option Addr) (oc : Nat), cv = .slice oa c.length oc ∧ c.length ≤ rows ∧ at_ ≤ l.length ∧ l.length - at_ ≤ f ∧ Hid (rrGo l.length rows l = c ++ rrGo f (rows - c.length) (l.drop at_)) ∧ Hid (VS w1 wr p ra rc l at_ 0 oa oc (u32s c))) (fun _ _ _ _ W => match W.cell? ⟨p, 1, none⟩ with | some (.int _ x) => l.length - x.toNat | _ => 0)
 case atStart => exact ⟨[], 0, l.length, none, 0, rfl, Nat.zero_le _, Nat.zero_le _, by omega, Hi (by simp), Hi (VS.start HR.out)⟩
 case round =>
  obtain ⟨c, at_, f, oa, oc, rfl, hc, hat, hf, hE, hV⟩ := hrel
  have HL := Hi (rleft_any p ra l.length rc at_ _ _ wr hV.out.rd.heap hat hl)
  have hmea : wr.cell? ⟨p, 1, none⟩ = some (.int .i64 at_) := cell_at hV.out.rd.heap rfl
  have HMEA := Hi hmea
  clear hmea
  rename World => w9
  by_cases h1 : at_ < l.length
  ·have h0 : 0 < l.length - at_ := by omega
   go_wp2_with fail
   refine HL.out.mono ?_
   rintro e w2 ⟨rfl, hm2⟩
   have HV2 := Hi (hV.out.mod0 hm2)
   clear hm2 hV HL
   have hdl : (l.drop at_).length = l.length - at_ := List.length_drop
   have hne : l.drop at_ ≠ [] := by intro e; rw [e] at hdl; simp at hdl; omega
   obtain ⟨f', rfl⟩ : ∃ f', f = f' + 1 := ⟨f - 1, by omega⟩
   have HDL := Hi hdl
   have HN1 := Hi (rdNum_any p ra rc l at_ 0 w2 HV2.out.rd)
   obtain ⟨M, hM⟩ : ∃ M, M = rows - c.length := ⟨_, rfl⟩
   rw [← hM] at hE
   have hMrows : M ≤ 65536 := by omega
   have hrc : (rows : Int) - (c.length : Int) = (M : Int) := by omega
   have HMM := Hi hM
   clear hM hdl
   obtain ⟨x, k1, e1, hg1⟩ : ∃ x k1 e1, getL (l.drop at_) = (x, k1, e1) := ⟨_, _, _, rfl⟩
   by_cases he1 : e1 = 0
   ·subst he1
    have hok1 := getL_ok (l := l.drop at_) (by rw [hg1])
    rw [hg1] at hok1
    obtain ⟨hk1, hk2, hx64⟩ := hok1
    simp only at hk1 hk2 hx64
    rw [stNum_ok (by rw [hg1]), hg1] at HN1
    obtain ⟨n, k2, e2, hg2⟩ : ∃ n k2 e2, getL ((l.drop at_).drop k1) = (n, k2, e2) := ⟨_, _, _, rfl⟩
    have HN2 := Hi (fun W h => rdNum_any p ra rc l (at_ + k1) 0 W h)
    have hg2' : getL (l.drop (at_ + k1)) = (n, k2, e2) := by rw [← List.drop_drop]; exact hg2
    by_cases he2 : e2 = 0
    ·subst he2
     have hok2 := getL_ok (l := (l.drop at_).drop k1) (by rw [hg2])
     rw [hg2, List.length_drop] at hok2
     obtain ⟨hk3, hk4, hn64⟩ := hok2
     simp only at hk3 hk4 hn64
     rw [stNum_ok (by rw [hg2']), hg2'] at HN2
     by_cases hx32 : x < 2 ^ 32
     ·have HTK := Hi (fun W => taken_any x W hx64)
      rw [decide_eq_true hx32, Nat.mod_eq_of_lt hx32] at HTK
      by_cases hn : n ≤ M
      ·have HON := Hi (rrGo_on f' M hne hg1 hg2 hx32 hn)
       rw [List.drop_drop] at HON
       have HB4 : Hid (k1 + k2 ≤ l.length - at_) := Hi (by have := HDL.out; omega)
       have HB3 := Hi hk3; have HB1 := Hi hk1
       have hn6 : n ≤ 65536 := by omega
       have hnm : ¬ M < n := by omega
       clear hg1 hg2 hg2' hne hk2 hk4 hx64 hn64 hk1 hk3 hn
       go_wp2_with fail
       refine HN1.out.mono ?_
       rintro e w3 ⟨rfl, hrd3, hm3⟩
       have HV3 := Hi (HV2.out.num hrd3 hm3)
       clear hrd3 hm3
       go_wp2_with fail
       refine (HTK.out _).mono ?_
       rintro e w4 ⟨rfl, hw4⟩
       obtain rfl : w3 = w4 := hw4
       go_wp2_with fail
       refine (HN2.out _ HV3.out.rd).mono ?_
       rintro e w5 ⟨rfl, hrd5, hm5⟩
       have HV5 := Hi (HV3.out.num hrd5 hm5)
       clear hrd5 hm5
       go_wp2_with fail
       refine (rerr_any p _ _ _ _ w5 HV5.out.rd.heap).mono ?_
       rintro e w6 ⟨rfl, hw6⟩
       obtain rfl : w5 = w6 := hw6
       go_wp2_with fail
       refine (repeat_any _ 1 x n _ (Rd.new w5 (.int .u32 (x : Nat)) 58) hn6).mono ?_
       rintro e w7 ⟨a7, c7, rfl, hO7⟩
       have HV7 := Hi (HV5.out.mod0 (((Mod.refl (fun _ => False) w5).alloc _).trans hO7.md))
       have HO7 := Hi hO7.own.rd
       clear hO7
       rw [List.length_replicate] at *
       have hown : Mine.Own w7 58 1 oa c.length oc (u32s c) := by have h1 := HV7.out.own; rwa [u32s_len] at h1
       go_wp2_with (at_builtin; refine wpL_append rfl (.tmp 39) (.tmp 44) 162 162 rfl tiU32 rfl hown rfl (Src.ofRd tiU32.ht n c7 HO7.out (by simp) (by simpa using u32s_one _)) (by omega) (by unfold maxLen; omega) ?_; intro a3 c3 w8 hO3 hG3 _
                    have HV8 : Hid (VS w1 w8 p ra rc l (at_ + k1 + k2) 0 a3 c3 (u32s (c ++ List.replicate n x))) := Hi (by
                     have e : u32s (c ++ List.replicate n x) = u32s c ++ u32s (List.replicate n x) := by simp [u32s]
                     rw [e]
                     exact HV7.out.app hG3 hO3 (by simp)); clear hO3 hG3)
       go_roundw
       case rel => exact ⟨c ++ List.replicate n x, at_ + k1 + k2, f', a3, c3, by simp, by simp; have := HMM.out; omega, by have := HB4.out; omega, by have := HB1.out; omega, Hi (by
        rw [hE.out, HON.out, List.length_append, List.length_replicate, List.append_assoc, show rows - (c.length + n) = M - n by have := HMM.out; omega, show at_ + (k1 + k2) = at_ + k1 + k2 by omega]), HV8⟩
       case measure =>
        rw [HMEA.out, show w8.cell? ⟨p, 1, none⟩ = some (.int .i64 (at_ + k1 + k2 : Nat)) from cell_at HV8.out.rd.heap rfl]
        have h3 := HB1.out
        have h4 := HB4.out
        show l.length - ((at_ + k1 + k2 : Nat) : Int).toNat < l.length - ((at_ : Nat) : Int).toNat
        omega
      ·have HEND : Hid (rrGo l.length rows l = c) := Hi (by
        rw [hE.out, rrGo_off _ _ (.inr (.inr (.inr (by rw [hg1, hg2]; show M < n; omega)))), List.append_nil])
       have hnm : M < n := by omega
       clear hg1 hg2 hg2' hne hk2 hk4 hx64 hn64 hk1 hk3 hn hE
       go_wp2_with fail
       refine HN1.out.mono ?_
       rintro e w3 ⟨rfl, hrd3, hm3⟩
       have HV3 := Hi (HV2.out.num hrd3 hm3)
       clear hrd3 hm3
       go_wp2_with fail
       refine (HTK.out _).mono ?_
       rintro e w4 ⟨rfl, hw4⟩
       obtain rfl : w3 = w4 := hw4
       go_wp2_with fail
       refine (HN2.out _ HV3.out.rd).mono ?_
       rintro e w5 ⟨rfl, hrd5, hm5⟩
       have HV5 := Hi (HV3.out.num hrd5 hm5)
       clear hrd5 hm5
       go_wp2_with fail
       refine (rerr_any p _ _ _ _ w5 HV5.out.rd.heap).mono ?_
       rintro e w6 ⟨rfl, hw6⟩
       obtain rfl : w5 = w6 := hw6
       go_wp2_with fail
       go_ret
       rw [HEND.out]
       exact ⟨oa, oc, rfl, HV5.out.post HM.out HP.out⟩
     ·have HTK := Hi (fun W => taken_any x W hx64)
      rw [decide_eq_false hx32] at HTK
      have HEND : Hid (rrGo l.length rows l = c) := Hi (by
       rw [hE.out, rrGo_off _ _ (.inr (.inr (.inl (by rw [hg1]; show 2 ^ 32 ≤ x; omega)))), List.append_nil])
      clear hg1 hg2 hg2' hne hk2 hk4 hx64 hn64 hk1 hk3 hE
      go_wp2_with fail
      refine HN1.out.mono ?_
      rintro e w3 ⟨rfl, hrd3, hm3⟩
      have HV3 := Hi (HV2.out.num hrd3 hm3)
      clear hrd3 hm3
      go_wp2_with fail
      refine (HTK.out _).mono ?_
      rintro e w4 ⟨rfl, hw4⟩
      obtain rfl : w3 = w4 := hw4
      go_wp2_with fail
      refine (HN2.out _ HV3.out.rd).mono ?_
      rintro e w5 ⟨rfl, hrd5, hm5⟩
      have HV5 := Hi (HV3.out.num hrd5 hm5)
      clear hrd5 hm5
      go_wp2_with fail
      refine (rerr_any p _ _ _ _ w5 HV5.out.rd.heap).mono ?_
      rintro e w6 ⟨rfl, hw6⟩
      obtain rfl : w5 = w6 := hw6
      go_wp2_with fail
      go_ret
      rw [HEND.out]
      exact ⟨oa, oc, rfl, HV5.out.post HM.out HP.out⟩
    ·have HEND : Hid (rrGo l.length rows l = c) := Hi (by
      rw [hE.out, rrGo_off _ _ (.inr (.inl (by rw [hg1, hg2]; exact he2))), List.append_nil])
     rw [stNum_err (by rw [hg2']; exact he2), hg2'] at HN2
     have hne2 : ((e2 : Int) != 0) = true := by simp; omega
     have HTK := Hi (fun W => taken_any x W hx64)
     generalize decide (x < 2 ^ 32) = dc at *
     clear hg1 hg2 hg2' hne hk2 hx64 hk1 hE
     go_wp2_with fail
     refine HN1.out.mono ?_
     rintro e w3 ⟨rfl, hrd3, hm3⟩
     have HV3 := Hi (HV2.out.num hrd3 hm3)
     clear hrd3 hm3
     go_wp2_with fail
     refine (HTK.out _).mono ?_
     rintro e w4 ⟨rfl, hw4⟩
     obtain rfl : w3 = w4 := hw4
     go_wp2_with fail
     refine (HN2.out _ HV3.out.rd).mono ?_
     rintro e w5 ⟨rfl, hrd5, hm5⟩
     have HV5 := Hi (HV3.out.num hrd5 hm5)
     clear hrd5 hm5
     go_wp2_with fail
     refine (rerr_any p _ _ _ _ w5 HV5.out.rd.heap).mono ?_
     rintro e w6 ⟨rfl, hw6⟩
     obtain rfl : w5 = w6 := hw6
     go_wp2_with fail
     go_ret
     rw [HEND.out]
     exact ⟨oa, oc, rfl, HV5.out.post HM.out HP.out⟩
   ·have HEND : Hid (rrGo l.length rows l = c) := Hi (by
     rw [hE.out, rrGo_off _ _ (.inl (by rw [hg1]; exact he1)), List.append_nil])
    rw [stNum_err (by rw [hg1]; exact he1), hg1] at HN1
    have HN2 := Hi (fun W h => rdNum_any p ra rc l at_ e1 W h)
    rw [stNum_bad l at_ he1] at HN2
    have hne1 : ((e1 : Int) != 0) = true := by simp; omega
    have HTK := Hi (fun W => taken_any 0 W (by omega))
    clear hg1 hne hE
    go_wp2_with fail
    refine HN1.out.mono ?_
    rintro e w3 ⟨rfl, hrd3, hm3⟩
    have HV3 := Hi (HV2.out.num hrd3 hm3)
    clear hrd3 hm3
    go_wp2_with fail
    refine (HTK.out _).mono ?_
    rintro e w4 ⟨rfl, hw4⟩
    obtain rfl : w3 = w4 := hw4
    go_wp2_with fail
    refine (HN2.out _ HV3.out.rd).mono ?_
    rintro e w5 ⟨rfl, hrd5, hm5⟩
    have HV5 := Hi (HV3.out.num hrd5 hm5)
    clear hrd5 hm5
    go_wp2_with fail
    refine (rerr_any p _ _ _ _ w5 HV5.out.rd.heap).mono ?_
    rintro e w6 ⟨rfl, hw6⟩
    obtain rfl : w5 = w6 := hw6
    go_wp2_with fail
    go_ret
    rw [HEND.out]
    exact ⟨oa, oc, rfl, HV5.out.post HM.out HP.out⟩
  ·have HEND : Hid (rrGo l.length rows l = c) := Hi (by
    rw [hE.out, List.drop_eq_nil_of_le (by omega), rrGo_nil, List.append_nil])
   clear hE
   have h0 : ¬ 0 < l.length - at_ := by omega
   go_wp2_with fail
   refine HL.out.mono ?_
   rintro e w2 ⟨rfl, hm2⟩
   have HV2 := Hi (hV.out.mod0 hm2)
   clear hm2 hV HL
   go_wp2_with fail
   go_ret
   rw [HEND.out]
   exact ⟨oa, oc, rfl, HV2.out.post HM.out HP.out⟩
end Go.Proofs.YtjoiaejbahdjkaaGreat
/-
  The program's reading of a column that was packed: walked.
-/
namespace Go.Proofs.YtjoiaejbahdjkaaGreat
open Go Go.RowKit Go.Mine
set_option linter.unusedVariables false
set_option maxHeartbeats 4000000
set_option maxRecDepth 100000
def pk (r : List UInt8) (n rows i k : Nat) : List Nat := (List.range rows).map fun j => numUp r n j (if j < i then n else if j = i then k else 0)
theorem pk_len (r : List UInt8) (n rows i k : Nat) : (pk r n rows i k).length = rows := by simp [pk]
theorem pk_next (r : List UInt8) (n rows i : Nat) : pk r n rows i n = pk r n rows (i + 1) 0 := by
 unfold pk
 refine List.map_congr_left fun j hj => ?_
 by_cases h1 : j < i
 ·rw [if_pos h1, if_pos (by omega)]
 ·by_cases h2 : j = i
  ·rw [if_neg h1, if_pos h2, if_pos (by omega)]
  ·rw [if_neg h1, if_neg h2, if_neg (by omega)]
   by_cases h3 : j = i + 1
   ·rw [if_pos h3]
   ·rw [if_neg h3]
theorem pk_zero (r : List UInt8) (n rows : Nat) : pk r n rows 0 0 = List.replicate rows 0 := by
 unfold pk
 rw [List.eq_replicate_iff]
 refine ⟨by simp, fun x hx => ?_⟩
 obtain ⟨j, _, rfl⟩ := List.mem_map.1 hx
 rw [if_neg (by omega)]
 by_cases h : j = 0
 ·rw [if_pos h]; rfl
 ·rw [if_neg h]; rfl
theorem pk_all (r : List UInt8) (n rows : Nat) : pk r n rows rows 0 = (List.range rows).map fun j => numUp r n j n := by
 unfold pk
 refine List.map_congr_left fun j hj => ?_
 rw [if_pos (List.mem_range.1 hj)]
theorem pk_get (r : List UInt8) (n : Nat) {rows i : Nat} (k : Nat) (h : i < rows) : (pk r n rows i k)[i]? = some (numUp r n i k) := by
 unfold pk
 rw [List.getElem?_map, List.getElem?_range h]
 simp
theorem pk_set (r : List UInt8) (n : Nat) {rows i : Nat} (k : Nat) (h : i < rows) : pk r n rows i (k + 1) = (pk r n rows i k).set i (numUp r n i (k + 1)) := by
 refine List.ext_getElem? fun j => ?_
 by_cases hj : j < rows
 ·rw [List.getElem?_set]
  by_cases he : i = j
  ·subst he
   rw [if_pos rfl, if_pos (by rw [pk_len]; exact h), pk_get r n (k + 1) h]
  ·rw [if_neg he]
   unfold pk
   rw [List.getElem?_map, List.getElem?_map, List.getElem?_range hj]
   simp only [Option.map_some]
   rw [if_neg (show ¬ j = i from fun e => he e.symm), if_neg (show ¬ j = i from fun e => he e.symm)]
 ·rw [List.getElem?_eq_none (by rw [pk_len]; omega), List.getElem?_eq_none (by rw [List.length_set, pk_len]; omega)]
theorem and1_8 (m : Nat) (h : m < 256) : bits .and .u8 (m : Int) 1 = ((m % 2 : Nat) : Int) := by
 have := u8_and_nat m 1 h (by decide)
 rw [show ((1 : Nat) : Int) = 1 from rfl] at this
 rw [this, Nat.and_one_is_mod]
theorem or_room32 (q b e v : Nat) (hq : q < 2 ^ e) (hv : v = q + b * 2 ^ e) (h32 : v < 4294967296) : bits .or .u32 (q : Int) ((b : Int) * 2 ^ e % 4294967296) = (v : Int) := by
 subst hv
 have e1 : (b : Int) * 2 ^ e % 4294967296 = ((b * 2 ^ e : Nat) : Int) := by
  have : (b : Int) * 2 ^ e = ((b * 2 ^ e : Nat) : Int) := by push_cast; rfl
  rw [this]; omega
 rw [e1, u32_or_nat q (b * 2 ^ e) (by omega) (by omega)]
 have := Nat.two_pow_add_eq_or_of_lt hq b
 rw [Nat.or_comm, Nat.mul_comm b, ← this, Nat.add_comm]
theorem readP4_any (a : Option Addr) (d rows : Nat) (l : List UInt8) (w : World) (hr : Rd w a (bts l)) (hl : l.length < 2 ^ 40) (hrows : rows ≤ 65536) :
 Calls Tryz.prog 186 #[.slice a l.length d, .int .i64 rows] w (RPost (rkL rows l) w) := by
 have HR := Hi hr
 clear hr
 cases l with
 | nil =>
   have HN : Hid (rkL rows [] = []) := Hi rfl
   go_enter Tryz.func186, Tryz.ntmps186
   go_wp2_with fail
   go_ret
   exact ⟨none, 0, rfl, VOwn.nil _ w⟩
 | cons b r =>
   obtain ⟨bb, bo, rfl, x0⟩ := byte_cell HR.out (i := 0) (by simp)
   have hb := b.toNat_lt
   have hrk : rkL rows (b :: r) = if 32 < b.toNat ∨ r.length ≠ (rows * b.toNat + 7) / 8 then [] else (List.range rows).map fun i => numUp r b.toNat i b.toNat := rfl
   rw [List.getElem_cons_zero, Nat.add_zero] at x0
   rw [List.length_cons] at hl ⊢
   have HRR : Hid (∀ j (h : j < r.length), w.cell? ⟨bb, bo + (1 + j), none⟩ = some (.int .u8 (r[j].toNat : Nat))) := Hi (fun j h => by
    obtain ⟨b', o', e', h1⟩ := byte_cell HR.out (i := j + 1) (by simp; omega)
    cases e'
    rw [List.getElem_cons_succ] at h1
    rw [Nat.add_comm 1 j]
    exact h1)
   generalize b.toNat = n at *
   have hq0 : ((r.length : Int) + 1 == 0) = false := by simp; omega
   by_cases h32 : 32 < n
   ·rw [if_pos (.inl h32)] at hrk
    have HK := Hi hrk
    have hq32 : decide ((32 : Int) < (n : Int)) = true := by simp; omega
    clear hrk
    go_enter Tryz.func186, Tryz.ntmps186
    go_wp2_with fail
    go_ret
    rw [HK.out]
    exact ⟨none, 0, rfl, VOwn.nil _ w⟩
   ·obtain ⟨N, hN⟩ : ∃ N, N = rows * n := ⟨_, rfl⟩
    have hNb : N ≤ 65536 * 32 := by rw [hN]; exact Nat.mul_le_mul hrows (by omega)
    have hNZ : (rows : Int) * (n : Int) = (N : Int) := by rw [hN]; push_cast; rfl
    rw [← hN] at hrk
    have HN := Hi hN
    clear hN
    have hq32 : decide ((32 : Int) < (n : Int)) = false := by simp; omega
    by_cases hlen : r.length = (N + 7) / 8
    ·rw [if_neg (by omega)] at hrk
     have HK := Hi hrk
     have hq1 : ((r.length : Int) + 1 != 1 + ((N : Int) + 7) / 8) = false := by simp; omega
     have HLEN := Hi hlen
     have hmk := mk32 rows (by omega) w
     clear hrk hlen
     go_enter Tryz.func186, Tryz.ntmps186
     go_wp2_with fail
     have HO0 : Hid (Mine.Own (w.alloc (.cells (Array.replicate rows (.int .u32 0)) 58)) 58 1 (some ⟨w.heap.size, 0, none⟩) rows rows (u32s (pk r n rows 0 0))) := Hi (by
      have h1 := Mine.Own.made w 58 1 (Array.replicate rows (.int .u32 0)) rows rows (Nat.le_refl _) (by unfold maxLen; omega) (by simp)
      have e : u32s (pk r n rows 0 0) = (Array.replicate rows (Value.int .u32 0)).toList.take (rows * 1) := by
       rw [pk_zero]; simp [u32s]
      rw [e]; exact h1)
     have HM0 : Hid (Mod (fun _ => False) w (w.alloc (.cells (Array.replicate rows (.int .u32 0)) 58))) := Hi ((Mod.refl _ w).alloc _)
     obtain ⟨B, hB⟩ : ∃ B, B = w.heap.size := ⟨_, rfl⟩
     rw [← hB] at HO0 ⊢
     have HB := Hi hB
     clear hB hmk
     generalize w.alloc (.cells (Array.replicate rows (.int .u32 0)) 58) = w1 at *
     go_loopw [7, 8, 9, 41, 45] (fun _ _ _ iv _ wr => ∃ i : Nat, iv = .int .i64 i ∧ i ≤ rows ∧ Hid (Mine.Own wr 58 1 (some ⟨B, 0, none⟩) rows rows (u32s (pk r n rows i 0))) ∧ Hid (Mod (fun _ => False) w wr)) (fun _ _ _ iv _ _ => rows - (intOf iv).toNat)
     case atStart => exact ⟨0, rfl, Nat.zero_le _, HO0, HM0⟩
     case round =>
      clear HO0 HM0
      obtain ⟨i, rfl, hi, hO, hM⟩ := hrel
      by_cases hlt : i < rows
      ·have hIN : i * n + n ≤ N := by
        rw [HN.out]
        have := Nat.mul_le_mul_right n (show i + 1 ≤ rows by omega)
        rw [Nat.add_mul] at this
        omega
       have hiW : (i : Int) * (n : Int) = ((i * n : Nat) : Int) := by push_cast; rfl
       have HNS := Hi (fun k => numUp_succ r n i k)
       have HNL := Hi (fun k => numUp_lt r n i k)
       have HGET := Hi (fun k => pk_get r n (rows := rows) (i := i) k hlt)
       have HSET := Hi (fun k => pk_set r n (rows := rows) (i := i) k hlt)
       have HNX := Hi (pk_next r n rows i)
       generalize i * n = I at *
       generalize hnu : numUp r n i = nu at *
       rename World => wq
       go_wp2_with fail
       go_loopw [8, 9, 45] (fun _ _ kv wr => ∃ k : Nat, kv = .int .i64 k ∧ k ≤ n ∧ Hid (Mine.Own wr 58 1 (some ⟨B, 0, none⟩) rows rows (u32s (pk r n rows i k))) ∧ Hid (Mod (fun _ => False) w wr)) (fun _ _ kv _ => n - (intOf kv).toNat)
       case atStart => exact ⟨0, rfl, Nat.zero_le _, hO, hM⟩
       case round =>
        obtain ⟨k, rfl, hk, hO3, hM3⟩ := hrel
        by_cases hlk : k < n
        ·have hmI : (I : Int) + (k : Int) = ((I + k : Nat) : Int) := by omega
         have hmN : I + k < N := by omega
         have hm8 : (I + k) / 8 < r.length := by have := HLEN.out; omega
         have y0 := hM3.out.cell (HRR.out ((I + k) / 8) hm8) id
         have HBB : Hid (bitB r (I + k) = bitN (r[(I + k) / 8].toNat) ((I + k) % 8)) := Hi (by
          unfold bitB; rw [List.getD_eq_getElem?_getD, List.getElem?_eq_getElem hm8]; rfl)
         have HS := HNS.out k
         have hq8 : r[(I + k) / 8].toNat < 256 := r[(I + k) / 8].toNat_lt
         rw [HBB.out] at HS
         have z0 : wr.cell? ⟨B, i, none⟩ = some (.int .u32 (nu k : Nat)) := by
          obtain ⟨b', o', e', h1⟩ := hO3.out.rd i (.int .u32 (nu k : Nat)) (by
           unfold u32s
           rw [List.getElem?_map, HGET.out k]
           rfl)
          cases e'
          simpa using h1
         have f0 : wr.frozen? ⟨B, i, none⟩ = false := hO3.out.frozen rfl
         generalize r[(I + k) / 8].toNat = q at *
         generalize I + k = m at *
         have hnl := HNL.out k
         have hp32 : 2 ^ (k + 1) ≤ 2 ^ 32 := Nat.pow_le_pow_right (by omega) (by omega)
         have hv32 : nu (k + 1) < 4294967296 := by have := HNL.out (k + 1); omega
         have hand : bits .and .u8 ((q : Int) / 2 ^ (m % 8)) 1 = ((bitN q (m % 8) : Nat) : Int) := by
          have h9 : q / 2 ^ (m % 8) ≤ q := Nat.div_le_self _ _
          rw [shr_cast, and1_8 _ (by omega)]
          rfl
         have hor := or_room32 (nu k) (bitN q (m % 8)) k (nu (k + 1)) hnl HS hv32
         have hb2 := bitN_lt q (m % 8)
         have HSK := HSET.out k
         have HSS := Hi HSK
         clear HS hp32 HSK hnl
         generalize bitN q (m % 8) = bq at *
         generalize nu (k + 1) = v at *
         generalize nu k = u at *
         go_wp2_with fail
         refine wp_region_ord (fun w' => w'.cell? ⟨B, i, none⟩ = some (.int .u32 (u : Nat)) ∧ w'.cell? ⟨bb, bo + (1 + m / 8), none⟩ = some (.int .u8 (q : Nat))) [(0, 0), (0, 1), (0, 2), (1, 3), (0, 4), (0, 5), (0, 6), (0, 7), (0, 8), (1, 9), (0, 10), (0, 11), (0, 12), (0, 13), (0, 14), (0, 15), (0, 16), (0, 17), (0, 18), (3, 19)] (by kernel_rfl) (by kernel_rfl) ?_
         go_wp2_with (first
          |(refine ord_pure rfl rfl rfl (fun K hK => ?_); go_big_quiet_op; refine hK _ ?_; clear hK K)
          |(refine ord_held rfl rfl rfl (⟨z0, y0⟩) (fun K hK => ?_); apply Exists.intro; refine ⟨fun w' hs => ?_, hK _ ?_⟩; (revert hs; dsimp only; (try simp only [and_imp]); intros; go_simp; rfl); clear hK K)
          |(refine ord_drop rfl rfl (fun K hK => ?_))
          |(refine ord_nil ?_))
         have HST : Hid (Mine.Own (wr.setCell ⟨B, i, none⟩ (.int .u32 (v : Nat))).drew 58 1 (some ⟨B, 0, none⟩) rows rows (u32s (pk r n rows i (k + 1)))) := Hi (by
          have h1 := hO3.out.store i (.int .u32 (v : Nat))
          have h2 : u32s (pk r n rows i (k + 1)) = (u32s (pk r n rows i k)).set i (.int .u32 (v : Nat)) := by
           rw [HSS.out]
           unfold u32s
           rw [List.map_set]
          rw [h2]
          exact h1.drew)
         have HMS : Hid (Mod (fun _ => False) w (wr.setCell ⟨B, i, none⟩ (.int .u32 (v : Nat))).drew) := Hi (hM3.out.setCell (p := ⟨B, i, none⟩) (fun h => by have h2 : B < w.heap.size := h; have := HB.out; omega) _).drew
         go_roundw
         case rel => exact ⟨k + 1, by go_num, hlk, HST, HMS⟩
         case measure => simp [intOf]; omega
        ·obtain rfl : k = n := by omega
         rw [HNX.out] at hO3
         go_wp2_with fail
         go_roundw
         case rel => exact ⟨i + 1, by go_num, hlt, hO3, hM3⟩
         case measure => simp [intOf]; omega
      ·obtain rfl : i = rows := by omega
       go_wp2_with fail
       go_ret
       rw [HK.out, ← pk_all]
       refine ⟨some ⟨B, 0, none⟩, i, by rw [pk_len]; rfl, ⟨?_, fun b' hb' => ?_, hM.out⟩⟩
       ·rw [u32s_len, pk_len]; exact hO.out
       ·have := HB.out
        have : B = b' := by simpa [blk] using hb'
        omega
    ·rw [if_pos (.inr hlen)] at hrk
     have HK := Hi hrk
     have hq1 : ((r.length : Int) + 1 != 1 + ((N : Int) + 7) / 8) = true := by simp; omega
     clear hrk hlen
     go_enter Tryz.func186, Tryz.ntmps186
     go_wp2_with fail
     go_ret
     rw [HK.out]
     exact ⟨none, 0, rfl, VOwn.nil _ w⟩
end Go.Proofs.YtjoiaejbahdjkaaGreat
/-
  The program's way of a column: walked.
-/
namespace Go.Proofs.YtjoiaejbahdjkaaGreat
open Go Go.RowKit Go.Mine
set_option linter.unusedVariables false
set_option maxHeartbeats 4000000
set_option maxRecDepth 100000
def i64s (l : List Nat) : List Value := l.map fun n => .int .i64 (n : Nat)
theorem i64_cell {w : World} {a : Option Addr} {c : List Nat} (h : Rd w a (i64s c)) {i : Nat} (hi : i < c.length) : ∃ b o, a = some ⟨b, o, none⟩ ∧ w.cell? ⟨b, o + i, none⟩ = some (.int .i64 (c[i] : Nat)) := by
 obtain ⟨b, o, e, h1⟩ := h i (.int .i64 (c[i] : Nat)) (by unfold i64s; rw [List.getElem?_map, List.getElem?_eq_getElem hi]; rfl)
 exact ⟨b, o, e, h1⟩
def minN : List Nat → Nat
 | [] => 0
 | x :: r => r.foldl min x
theorem minN_snoc {l : List Nat} (h : l ≠ []) (x : Nat) : minN (l ++ [x]) = min (minN l) x := by
 cases l with
 | nil => exact absurd rfl h
 | cons y r => rw [List.cons_append, minN, minN, List.foldl_append]; rfl
theorem min_any (a : Option Addr) (d : Nat) (c : List Nat) (w : World) (hr : Rd w a (i64s c)) (h0 : 0 < c.length) (hn : c.length < 2 ^ 32) :
 Calls Tryz.prog 200 #[.slice a c.length d] w fun e w' => e = .returned (.int .i64 (minN c : Nat)) ∧ w = w' := by
 have HR := Hi hr
 obtain ⟨b, o, rfl, x0⟩ := i64_cell hr h0
 rw [Nat.add_zero] at x0
 have HM1 : Hid (minN (c.take 1) = c[0]) := Hi (by
  rw [List.take_succ_eq_append_getElem h0, List.take_zero]
  rfl)
 clear hr
 generalize c[0] = y at *
 have hl1 : 1 ≤ c.length := h0
 go_enter Tryz.func200, Tryz.ntmps200
 go_wp2_with fail
 clear x0
 go_loopw [3, 4] (fun mv iv wr => ∃ k : Nat, iv = .int .i64 k ∧ 1 ≤ k ∧ k ≤ c.length ∧ mv = .int .i64 (minN (c.take k) : Nat) ∧ wr = w) (fun _ iv _ => c.length - (intOf iv).toNat)
 case atStart => exact ⟨1, rfl, by omega, h0, by rw [HM1.out], rfl⟩
 case round =>
  obtain ⟨k, rfl, hk1, hk, rfl, hww⟩ := hrel
  obtain rfl : w = wr := hww.symm
  clear hww
  by_cases hlt : k < c.length
  ·obtain ⟨b', o', e', x0⟩ := i64_cell HR.out hlt
   cases e'
   have HTK : Hid (minN (c.take (k + 1)) = min (minN (c.take k)) c[k]) := Hi (by rw [List.take_succ_eq_append_getElem hlt, minN_snoc (fun h => by
    have h2 : (c.take k).length = 0 := by rw [h]; rfl
    rw [List.length_take] at h2
    omega)])
   generalize minN (c.take k) = m at *
   generalize c[k] = x at *
   go_wp2_with fail
   go_roundw
   case rel => exact ⟨k + 1, by go_num, by omega, hlt, by rw [HTK.out, show ((min m x : Nat) : Int) = min (m : Int) x by omega], trivial⟩
   case measure => simp [intOf]; omega
  ·obtain rfl : k = c.length := by omega
   rw [List.take_length]
   go_wp2_with fail
   go_ret
   exact ⟨rfl, rfl⟩
theorem index_any (a : Option Addr) (d : Nat) (c : List Nat) (x : Nat) (w : World) (hr : Rd w a (i64s c)) (hx : x ∈ c) (hn : c.length < 2 ^ 32) :
 Calls Tryz.prog 199 #[.slice a c.length d, .int .i64 x] w fun e w' => e = .returned (.int .i64 (c.idxOf x : Nat)) ∧ w = w' := by
 have HR := Hi hr
 have hle := Hi (List.idxOf_lt_length_of_mem hx)
 have HX := Hi hx
 clear hr hx
 go_enter Tryz.func199, Tryz.ntmps199
 go_wp2_with fail
 go_loopw [5, 8] (fun _ iv wr => ∃ k : Nat, iv = .int .i64 k ∧ k ≤ c.idxOf x ∧ wr = w) (fun _ iv _ => c.length - (intOf iv).toNat)
 case atStart => exact ⟨0, rfl, Nat.zero_le _, rfl⟩
 case round =>
  obtain ⟨k, rfl, hk, hww⟩ := hrel
  obtain rfl : w = wr := hww.symm
  clear hww
  have hlt : k < c.length := by have := hle.out; omega
  obtain ⟨b', o', rfl, x0⟩ := i64_cell HR.out hlt
  by_cases he : k = c.idxOf x
  ·have hc : c[k] = x := by subst he; exact List.getElem_idxOf hlt
   rw [hc] at x0
   have HE := Hi he
   clear hc he
   go_wp2_with fail
   go_ret
   rw [HE.out]
   exact ⟨rfl, rfl⟩
  ·have hc : x ≠ c[k] := by
    intro e
    have h1 : ¬ k < c.findIdx (· == x) := fun h => by
     have := List.not_of_lt_findIdx h
     rw [← e] at this
     simp at this
    have h2 : c.findIdx (· == x) = c.idxOf x := rfl
    omega
   have hcb : ((x : Int) == (c[k] : Int)) = false := by simp; omega
   have HK : Hid (k + 1 ≤ c.idxOf x) := Hi (by omega)
   clear hc he
   generalize c[k] = y at *
   go_wp2_with fail
   go_roundw
   case rel => exact ⟨k + 1, by go_num, HK.out, trivial⟩
   case measure => simp [intOf]; omega
theorem way_min (c : List Nat) : wayN c = (szs c).idxOf (minN (szs c)) + 1 ∧ minN (szs c) ∈ szs c := by
 unfold wayN szs
 generalize (layP c).length = a
 generalize (layD c).length = b
 generalize (layR c).length = p
 generalize (layK c).length = q
 have hkey : ∀ X : Nat, [a, b, p, q].idxOf X = if a = X then 0 else if b = X then 1 else if p = X then 2 else if q = X then 3 else 4 := by
  intro X
  simp only [List.idxOf_cons, List.idxOf_nil]
  by_cases h1 : a = X
  ·simp [h1]
  ·rw [if_neg h1, beq_eq_false_iff_ne.2 h1]
   by_cases h2 : b = X
   ·simp [h2]
   ·rw [if_neg h2, beq_eq_false_iff_ne.2 h2]
    by_cases h3 : p = X
    ·simp [h3]
    ·rw [if_neg h3, beq_eq_false_iff_ne.2 h3]
     by_cases h4 : q = X
     ·simp [h4]
     ·rw [if_neg h4, beq_eq_false_iff_ne.2 h4]; rfl
 have hmin : minN [a, b, p, q] = min (min (min a b) p) q := rfl
 rw [hkey, hmin]
 simp only [List.tail, best, List.mem_cons]
 refine ⟨?_, by omega⟩
 by_cases h1 : b < a
 ·by_cases h2 : p < b
  ·by_cases h3 : q < p
   ·simp [h1, h2, h3]; repeat' split
    all_goals omega
   ·simp [h1, h2, h3]; repeat' split
    all_goals omega
  ·by_cases h3 : q < b
   ·simp [h1, h2, h3]; repeat' split
    all_goals omega
   ·simp [h1, h2, h3]; repeat' split
    all_goals omega
 ·by_cases h2 : p < a
  ·by_cases h3 : q < p
   ·simp [h1, h2, h3]; repeat' split
    all_goals omega
   ·simp [h1, h2, h3]; repeat' split
    all_goals omega
  ·by_cases h3 : q < a
   ·simp [h1, h2, h3]; repeat' split
    all_goals omega
   ·simp [h1, h2, h3]; repeat' split
    all_goals omega
theorem wayP_any (a : Option Addr) (d : Nat) (c : List Nat) (w : World) (hr : Rd w a (u32s c)) (hu : U32 c) (hn : c.length ≤ 65536) (hab : ∀ b, blk a = some b → b < w.heap.size) :
 Calls Tryz.prog 187 #[.slice a c.length d] w fun e w' => e = .returned (.int .i64 (wayN c : Nat)) ∧ Mod (fun _ => False) w w' := by
 have HS := Hi (sizesP_any a d c w hr hu hn hab)
 have HW := Hi (way_min c)
 clear hr hu hab
 have hf : fourI (szs c) = .agg #[.int .i64 ((layP c).length : Nat), .int .i64 ((layD c).length : Nat), .int .i64 ((layR c).length : Nat), .int .i64 ((layK c).length : Nat)] := rfl
 rw [hf] at HS
 have hs4 : szs c = [(layP c).length, (layD c).length, (layR c).length, (layK c).length] := rfl
 rw [hs4] at HW
 clear hf hs4
 generalize (layP c).length = n1 at *
 generalize (layD c).length = n2 at *
 generalize (layR c).length = n3 at *
 generalize (layK c).length = n4 at *
 go_enter Tryz.func187, Tryz.ntmps187
 go_wp2_with fail
 refine HS.out.mono ?_
 rintro e w1 ⟨rfl, hm⟩
 go_wp2_with fail
 have HR : Hid (∀ W, Mod (fun _ => False) (w1.alloc (.cells #[.int .i64 (n1 : Nat), .int .i64 (n2 : Nat), .int .i64 (n3 : Nat), .int .i64 (n4 : Nat)] 215)) W → Rd W (some ⟨w1.heap.size, 0, none⟩) (i64s [n1, n2, n3, n4])) := Hi (fun W m =>
  (Rd.news w1 (i64s [n1, n2, n3, n4]) 215).mod m (fun _ _ => id))
 have HM := Hi (hm.alloc (.cells #[.int .i64 (n1 : Nat), .int .i64 (n2 : Nat), .int .i64 (n3 : Nat), .int .i64 (n4 : Nat)] 215))
 generalize w1.alloc (.cells #[.int .i64 (n1 : Nat), .int .i64 (n2 : Nat), .int .i64 (n3 : Nat), .int .i64 (n4 : Nat)] 215) = w2 at *
 generalize w1.heap.size = B at *
 clear hm
 refine wp_region_ord (fun w' => True) [(0, 0), (0, 1), (3, 2), (3, 3), (0, 4), (0, 5)] (by kernel_rfl) (by kernel_rfl) ?_
 go_wp2_with (first
  |(refine ord_pure rfl rfl rfl (fun K hK => ?_); go_big_quiet_op; refine hK _ ?_; clear hK K)
  |(refine ord_drop rfl rfl (fun K hK => ?_))
  |(refine ord_nil ?_))
 refine (min_any (some ⟨B, 0, none⟩) 4 [n1, n2, n3, n4] _ (HR.out _ (Mod.refl _ w2).drew) (by simp) (by simp)).mono ?_
 rintro e w3 ⟨rfl, hw3⟩
 have HM3 : Hid (Mod (fun _ => False) w2 w3) := Hi (by rw [← hw3]; exact (Mod.refl _ w2).drew)
 clear hw3
 refine hK _ _ ?_
 clear hK K
 go_wp2_with (first
  |(refine ord_pure rfl rfl rfl (fun K hK => ?_); go_big_quiet_op; refine hK _ ?_; clear hK K)
  |(refine ord_drop rfl rfl (fun K hK => ?_))
  |(refine ord_nil ?_))
 refine (index_any (some ⟨B, 0, none⟩) 4 [n1, n2, n3, n4] _ _ (HR.out _ HM3.out) HW.out.2 (by simp)).mono ?_
 rintro e w4 ⟨rfl, hw4⟩
 obtain rfl : w3 = w4 := hw4
 refine hK _ _ ?_
 clear hK K
 have HE : Hid (((wayN c : Nat) : Int) = 1 + (([n1, n2, n3, n4].idxOf (minN [n1, n2, n3, n4]) : Nat) : Int)) := Hi (by
  rw [HW.out.1]; omega)
 have hi4 : [n1, n2, n3, n4].idxOf (minN [n1, n2, n3, n4]) < 4 := List.idxOf_lt_length_of_mem HW.out.2
 generalize [n1, n2, n3, n4].idxOf (minN [n1, n2, n3, n4]) = ix at *
 go_wp2_with (first
  |(refine ord_pure rfl rfl rfl (fun K hK => ?_); go_big_quiet_op; refine hK _ ?_; clear hK K)
  |(refine ord_drop rfl rfl (fun K hK => ?_))
  |(refine ord_nil ?_))
 go_ret
 rw [HE.out]
 exact ⟨rfl, HM.out.trans HM3.out⟩
end Go.Proofs.YtjoiaejbahdjkaaGreat
