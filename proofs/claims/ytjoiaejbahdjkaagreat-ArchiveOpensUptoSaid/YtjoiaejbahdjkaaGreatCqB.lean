/-
  The program's runs: what the iterator gives.
-/
import Derived.Test.YtjoiaejbahdjkaaGreatCqA
import Derived.Test.YtjoiaejbahdjkaaGreatRng
namespace Go.Proofs.YtjoiaejbahdjkaaGreat
open Go Go.RowKit Go.Mine
set_option linter.unusedVariables false
set_option maxHeartbeats 8000000
set_option maxRecDepth 100000
structure KpV (hi V : Nat) (W W' : World) : Prop where
 size : W.heap.size ≤ W'.heap.size
 same : ∀ k, k < hi ∨ k = V → W'.heap[k]? = W.heap[k]?
theorem KpV.trans {hi V : Nat} {A1 A2 A3 : World} (h : KpV hi V A1 A2) (k : KpV hi V A2 A3) : KpV hi V A1 A3 :=
 ⟨Nat.le_trans h.size k.size, fun i h2 => (k.same i h2).trans (h.same i h2)⟩
theorem KpV.of_mod {S : Nat → Prop} {hi V : Nat} {W W' : World} (h : Mod S W W') (hl : hi ≤ W.heap.size) (hV : V < W.heap.size) (hs : ∀ k, k < hi ∨ k = V → ¬ S k) : KpV hi V W W' :=
 ⟨h.size, fun k h2 => h.block k (by omega) (hs k h2)⟩
theorem KpV.putObj {hi V : Nat} {w : World} (hh : hi ≤ w.heap.size) (hV : V < w.heap.size) (W : World) (l : Nat) (o o' : Obj) (hl : w.heap.size ≤ l) (h : W.heap[l]? = some o) (hc : o.isCells = false) (_ : o.isWalk = false) : KpV hi V W (W.putObj l o') :=
 ⟨by simp, fun k h2 => World.putObj_heap_other (by omega)⟩
theorem runs_any (a : Option Addr) (n d : Nat) (w : World) :
 Calls Tryz.prog 180 #[.slice a n d] w fun e w' => e = .returned (.func (.func 195) #[] #[.pointer (some ⟨w.heap.size, 0, none⟩)]) ∧ w' = w.alloc (.cells #[.slice a n d] 162) := by
 go_enter Tryz.func180, Tryz.ntmps180
 go_wp2
 go_ret
 exact ⟨rfl, rfl⟩
attribute [local go_sem] Oper.semAt_some
@[local go_sem, local simp] theorem wide_fnQ (f : FuncId) : Fence.wide.fn f = True := rfl
@[local go_sem, local simp] theorem wide_depthQ : Fence.wide.depth = none := rfl
def encQ (x : Nat × Nat) : Array Value := #[.int .u32 (x.1 % 4294967296 : Nat), .int .i64 (x.2 % 8589934592 : Nat)]
theorem runs1_in (n l V hi : Nat) (c : List Nat) (a : Option Addr) (d : Nat) (J Jx : List (Nat × Nat) → World → Prop) (W : World) (hn : c.length ≤ 65536) (hu : U32 c)
 (hJs : ∀ pre W1 W2, Mod (fun _ => False) W1 W2 → J pre W1 → J pre W2)
 (hY : ∀ pre x W1, J pre W1 → pre.length < (rns c).length → YieldAt Fence.wide (n - 1) Tryz.prog l (encQ x) W1 fun e W' =>
  (e = .returned (.bool true) ∧ J (pre ++ [x]) W' ∧ KpV hi V W1 W') ∨ (e = .returned (.bool false) ∧ Jx (pre ++ [x]) W'))
 (hV : W.heap[V]? = some (.cells #[.slice a c.length d] 162 (0, 0))) (hhi : hi ≤ W.heap.size) (hR : Rd W a (u32s c)) (hab : ∀ b, blk a = some b → b < hi) (h0 : J [] W) :
 CallsIn Fence.wide n Tryz.prog 195 #[.func (.yield l) #[] #[], .pointer (some ⟨V, 0, none⟩)] W fun e W' => (∃ v, e = .returned v) ∧
  ((∃ ys, ys = rns c ∧ J ys W') ∨ (∃ pre, pre <+: rns c ∧ Jx pre W')) := by
 refine callsIn_of_wp Tryz.func195 rfl trivial ?_ rfl
 simp only [Tryz.ntmps195, List.size_toArray, List.length_cons, List.length_nil, Nat.reduceAdd, Nat.reduceSub, Array.replicate_succ, Array.replicate_zero, List.push_toArray, List.append_toArray, List.nil_append, List.cons_append]
 have HY := Hi hY; have HR := Hi hR; have HAB := Hi hab; have H0 := Hi h0; have HJS := Hi hJs; have HV := Hi hV; have HHI := Hi hhi; have HU := Hi hu
 clear hY hV hR hab h0 hJs hhi hu
 gi_wp2_with fail
 gi_loopw [3, 4] (fun iv _ wr => ∃ (i : Nat) (pre : List (Nat × Nat)), iv = .int .i64 i ∧ i ≤ c.length ∧ Hid (rns c = pre ++ rns (c.drop i)) ∧ Hid (J pre wr) ∧ Hid (KpV hi V W wr)) (fun iv _ _ => c.length - (intOf iv).toNat)
 case atStart => exact ⟨0, [], rfl, Nat.zero_le _, Hi rfl, H0, Hi ⟨Nat.le_refl _, fun _ _ => rfl⟩⟩
 case round =>
  obtain ⟨i, pre, rfl, hi', hP, hJ, hKp⟩ := hrel
  have hVw : wr.heap[V]? = some (.cells #[.slice a c.length d] 162 (0, 0)) := by rw [hKp.out.same V (.inr rfl)]; exact HV.out
  have cV := cell_at (j := 0) hVw rfl
  clear hVw
  by_cases hlt : i < c.length
  ·have hrd := rd_of_same HR.out (fun k hk => hKp.out.same k (.inl hk)) HAB.out
   obtain ⟨b, o, rfl, x0⟩ := u32_cell hrd hlt
   have HRD := Hi hrd
   have hx32 := HU.out _ (List.getElem_mem hlt)
   obtain ⟨hT1, hT2, hTA, hTE, hTR⟩ := run_at c i hlt
   have HTA := Hi hTA; have HTE := Hi hTE; have HTR := Hi hTR
   clear hTA hTE hTR hrd
   generalize runT c i = T at *
   rename World => wq
   gi_wp2_with fail
   refine (wpIn_wide (n := n)).2 ?_
   go_loopw [4] (fun kv wr => ∃ k : Nat, kv = .int .i64 k ∧ i ≤ k ∧ k ≤ i + T ∧ Hid (Mod (fun _ => False) wq wr)) (fun kv _ => i + T - (intOf kv).toNat)
   case atStart => exact ⟨i, rfl, Nat.le_refl _, by omega, Hi (Mod.refl _ _)⟩
   case round =>
    obtain ⟨k, rfl, h1, h2, hm⟩ := hrel
    have x0' := hm.out.cell x0 id
    have cV' := hm.out.cell cV id
    by_cases hkT : k < i + T
    ·obtain ⟨b', o', e', y0⟩ := u32_cell (HRD.out.mod hm.out (fun _ _ => id)) (i := k) (by omega)
     cases e'
     rw [HTA.out k h1 hkT (by omega)] at y0
     generalize c[i] = x at *
     have hklen : k < c.length := by omega
     go_wp2_with fail
     refine wp_region_ord (fun w' => w'.cell? ⟨V, 0, none⟩ = some (.slice (some ⟨b, o, none⟩) c.length d) ∧ w'.cell? ⟨b, o + k, none⟩ = some (.int .u32 (x : Nat)) ∧ w'.cell? ⟨b, o + i, none⟩ = some (.int .u32 (x : Nat))) [(0, 0), (1, 1), (0, 2), (0, 3), (0, 4), (1, 5), (0, 6), (0, 7), (1, 8), (1, 9), (0, 10), (0, 11), (1, 12), (0, 13), (0, 14)] (by kernel_rfl) (by kernel_rfl) ?_
     go_wp2_with (first
      |(refine ord_pure rfl rfl rfl (fun K hK => ?_); go_big_quiet_op; refine hK _ ?_; clear hK K)
      |(refine ord_skip rfl rfl ?_; simp only [Act.put, List.setIfInBounds_toArray, List.set_cons_zero, List.set_cons_succ])
      |(refine ord_held rfl rfl rfl (⟨cV', y0, x0'⟩) (fun K hK => ?_); apply Exists.intro; refine ⟨fun w' hs => ?_, hK _ ?_⟩; (revert hs; dsimp only; (try simp only [and_imp]); intros; go_simp; rfl); clear hK K)
      |(refine ord_nil ?_))
     go_roundw
     case rel => exact ⟨k + 1, by go_num, by omega, by omega, Hi hm.out.drew⟩
     case measure => simp [intOf]; omega
    ·have HKK := Hi (show k = i + T by omega)
     have hik : k ≤ c.length := by omega
     clear hkT h2
     by_cases hke : k < c.length
     ·obtain ⟨b', o', e', y0⟩ := u32_cell (HRD.out.mod hm.out (fun _ _ => id)) (i := k) hke
      cases e'
      have hne : c[k] ≠ c[i] := by have := HTE.out (by rw [← HKK.out]; exact hke); simp only [← HKK.out] at this; exact this
      generalize c[i] = x at *
      generalize c[k] = y at *
      have hbe : ((y : Int) == (x : Int)) = false := by simp; omega
      go_wp2_with fail
      refine wp_region_ord (fun w' => w'.cell? ⟨V, 0, none⟩ = some (.slice (some ⟨b, o, none⟩) c.length d) ∧ w'.cell? ⟨b, o + k, none⟩ = some (.int .u32 (y : Nat)) ∧ w'.cell? ⟨b, o + i, none⟩ = some (.int .u32 (x : Nat))) [(0, 0), (1, 1), (0, 2), (0, 3), (0, 4), (1, 5), (0, 6), (0, 7), (1, 8), (1, 9), (0, 10), (0, 11), (1, 12), (0, 13), (0, 14)] (by kernel_rfl) (by kernel_rfl) ?_
      go_wp2_with (first
       |(refine ord_pure rfl rfl rfl (fun K hK => ?_); go_big_quiet_op; refine hK _ ?_; clear hK K)
       |(refine ord_skip rfl rfl ?_; simp only [Act.put, List.setIfInBounds_toArray, List.set_cons_zero, List.set_cons_succ])
       |(refine ord_held rfl rfl rfl (⟨cV', y0, x0'⟩) (fun K hK => ?_); apply Exists.intro; refine ⟨fun w' hs => ?_, hK _ ?_⟩; (revert hs; dsimp only; (try simp only [and_imp]); intros; go_simp; rfl); clear hK K)
       |(refine ord_nil ?_))
      clear y0 hbe
      have x5 : wr.drew.cell? ⟨b, o + i, none⟩ = some (.int .u32 (x : Nat)) := x0'
      have v5 : wr.drew.cell? ⟨V, 0, none⟩ = some (.slice (some ⟨b, o, none⟩) c.length d) := cV'
      have hJ5 := HJS.out pre wq wr.drew hm.out.drew hJ.out
      have hK5 : KpV hi V W wr.drew := KpV.trans hKp.out (KpV.of_mod hm.out.drew (Nat.le_trans HHI.out hKp.out.size) (Nat.lt_of_lt_of_le (Array.getElem?_eq_some_iff.1 HV.out).1 hKp.out.size) (fun _ _ => id))
      have hkt : ((k : Int) - i) = (T : Int) := by have := HKK.out; omega
      clear x0' cV' x0 cV hm
      generalize wr.drew = w5 at *
      obtain ⟨fn, tmps, assign, body, hy0, hRr⟩ := HY.out pre (x, T) w5 hJ5 (by rw [hP.out, HTR.out]; simp)
      have HRr := Hi hRr; have HK5 := Hi hK5
      clear hRr hJ5 hK5
      have hxm : x % 4294967296 = x := Nat.mod_eq_of_lt (by omega)
      have hTm : T % 8589934592 = T := Nat.mod_eq_of_lt (by omega)
      unfold encQ at hy0
      simp only at hy0
      rw [hxm, hTm] at hy0
      gi_wp2
      refine HRr.out.mono ?_
      rintro e W3 (⟨rfl, hJ3, hk3⟩ | ⟨rfl, hJx3⟩)
      ·have HK3 := Hi (KpV.trans HK5.out hk3); have HJ3 := Hi hJ3
       clear hk3 hJ3
       gi_wp2
       go_roundw
       case rel => exact ⟨k, pre ++ [(x, T)], rfl, hik, Hi (by rw [hP.out, HTR.out, HKK.out]; simp), HJ3, HK3⟩
       case measure => have := HKK.out; simp [intOf]; omega
      ·gi_wp2
       refine bodyPost_ret (results_none rfl _ _ _) rfl ?_
       exact ⟨⟨_, rfl⟩, .inr ⟨pre ++ [(x, T)], ⟨rns (c.drop k), by rw [hP.out, HTR.out, HKK.out]; simp⟩, hJx3⟩⟩
     ·generalize c[i] = x at *
      go_wp2_with fail
      refine wp_region_ord (fun w' => w'.cell? ⟨V, 0, none⟩ = some (.slice (some ⟨b, o, none⟩) c.length d)) [(0, 0), (1, 1), (0, 2), (0, 3), (0, 4), (1, 5), (0, 6), (0, 7), (1, 8), (1, 9), (0, 10), (0, 11), (1, 12), (0, 13), (0, 14)] (by kernel_rfl) (by kernel_rfl) ?_
      go_wp2_with (first
       |(refine ord_pure rfl rfl rfl (fun K hK => ?_); go_big_quiet_op; refine hK _ ?_; clear hK K)
       |(refine ord_skip rfl rfl ?_; simp only [Act.put, List.setIfInBounds_toArray, List.set_cons_zero, List.set_cons_succ])
       |(refine ord_held rfl rfl rfl (cV') (fun K hK => ?_); apply Exists.intro; refine ⟨fun w' hs => ?_, hK _ ?_⟩; (revert hs; dsimp only; (try simp only [and_imp]); intros; go_simp; rfl); clear hK K)
       |(refine ord_nil ?_))
      have x5 : wr.drew.cell? ⟨b, o + i, none⟩ = some (.int .u32 (x : Nat)) := x0'
      have v5 : wr.drew.cell? ⟨V, 0, none⟩ = some (.slice (some ⟨b, o, none⟩) c.length d) := cV'
      have hJ5 := HJS.out pre wq wr.drew hm.out.drew hJ.out
      have hK5 : KpV hi V W wr.drew := KpV.trans hKp.out (KpV.of_mod hm.out.drew (Nat.le_trans HHI.out hKp.out.size) (Nat.lt_of_lt_of_le (Array.getElem?_eq_some_iff.1 HV.out).1 hKp.out.size) (fun _ _ => id))
      have hkt : ((k : Int) - i) = (T : Int) := by have := HKK.out; omega
      clear x0' cV' x0 cV hm
      generalize wr.drew = w5 at *
      obtain ⟨fn, tmps, assign, body, hy0, hRr⟩ := HY.out pre (x, T) w5 hJ5 (by rw [hP.out, HTR.out]; simp)
      have HRr := Hi hRr; have HK5 := Hi hK5
      clear hRr hJ5 hK5
      have hxm : x % 4294967296 = x := Nat.mod_eq_of_lt (by omega)
      have hTm : T % 8589934592 = T := Nat.mod_eq_of_lt (by omega)
      unfold encQ at hy0
      simp only at hy0
      rw [hxm, hTm] at hy0
      gi_wp2
      refine HRr.out.mono ?_
      rintro e W3 (⟨rfl, hJ3, hk3⟩ | ⟨rfl, hJx3⟩)
      ·have HK3 := Hi (KpV.trans HK5.out hk3); have HJ3 := Hi hJ3
       clear hk3 hJ3
       gi_wp2
       go_roundw
       case rel => exact ⟨k, pre ++ [(x, T)], rfl, hik, Hi (by rw [hP.out, HTR.out, HKK.out]; simp), HJ3, HK3⟩
       case measure => have := HKK.out; simp [intOf]; omega
      ·gi_wp2
       refine bodyPost_ret (results_none rfl _ _ _) rfl ?_
       exact ⟨⟨_, rfl⟩, .inr ⟨pre ++ [(x, T)], ⟨rns (c.drop k), by rw [hP.out, HTR.out, HKK.out]; simp⟩, hJx3⟩⟩
  ·obtain rfl : i = c.length := by omega
   have hPE : rns c = pre := by
    have := hP.out
    rw [List.drop_length] at this
    have e2 : rns ([] : List Nat) = [] := by rw [rns]
    rw [this, e2, List.append_nil]
   have HPE := Hi hPE
   clear hPE
   gi_wp2
   go_end0
   exact ⟨⟨_, rfl⟩, .inl ⟨pre, HPE.out.symm, hJ.out⟩⟩
theorem runs_stops (n V hi : Nat) (c : List Nat) (a : Option Addr) (d : Nat) (w : World) (hn : c.length ≤ 65536) (hu : U32 c) (hV : w.heap[V]? = some (.cells #[.slice a c.length d] 162 (0, 0))) (hhi : hi ≤ w.heap.size) (hR : Rd w a (u32s c)) (hab : ∀ b, blk a = some b → b < hi) :
 SeqStopsK Fence.wide n Tryz.prog 195 #[.pointer (some ⟨V, 0, none⟩)] encQ (KpV hi V) (fun ys => ys = rns c) (fun pre => pre <+: rns c) (rns c).length w := by
 intro l J Jx W hW hJ hJx hY h0
 have hM : Mod (fun _ => False) w W := Mod.ofBelow hW
 refine runs1_in n l V hi c a d J Jx W hn hu (fun pre W1 W2 m hj => ?_) hY (hM.at hV id) (Nat.le_trans hhi hM.size) (hR.mod hM (fun _ _ => id)) hab h0
 exact hJ pre W1 W2 none hj m.grownBy (fun r e => by cases e)
end Go.Proofs.YtjoiaejbahdjkaaGreat
/-
  The program's runs: how long, laid: walked.
-/
namespace Go.Proofs.YtjoiaejbahdjkaaGreat
open Go Go.RowKit Go.Mine
set_option linter.unusedVariables false
set_option maxHeartbeats 8000000
set_option maxRecDepth 100000
attribute [local go_sem] Oper.semAt_some
@[local go_sem, local simp] theorem wide_fnS (f : FuncId) : Fence.wide.fn f = True := rfl
@[local go_sem, local simp] theorem wide_depthS : Fence.wide.depth = none := rfl
def layRp (l : List (Nat × Nat)) : List UInt8 := l.flatMap fun p => lebl p.1 ++ lebl p.2
theorem layRp_snoc (l : List (Nat × Nat)) (x : Nat × Nat) : layRp (l ++ [x]) = layRp l ++ (lebl x.1 ++ lebl x.2) := by unfold layRp; rw [List.flatMap_append, List.flatMap_singleton]
def nx (x : Nat × Nat) : Nat × Nat := (x.1 % 4294967296, x.2 % 8589934592)
theorem nx_rns {l : List (Nat × Nat)} (h : ∀ p ∈ l, p.1 < 2 ^ 32 ∧ p.2 < 2 ^ 33) : l.map nx = l := by
 refine (List.map_congr_left fun p hp => ?_).trans (List.map_id l)
 obtain ⟨h1, h2⟩ := h p hp
 unfold nx
 rw [Nat.mod_eq_of_lt (by omega), Nat.mod_eq_of_lt (by omega)]
 rfl
theorem nx_ok (l : List (Nat × Nat)) : ∀ p ∈ l.map nx, p.1 < 2 ^ 32 ∧ p.2 < 2 ^ 33 := fun p hp => by
 obtain ⟨q, _, rfl⟩ := List.mem_map.1 hp
 exact ⟨Nat.mod_lt _ (by omega), Nat.mod_lt _ (by omega)⟩
def SzI (w : World) (B N : Nat) (pre : List (Nat × Nat)) (W : World) : Prop := Boxed W B 3 (.int .i64 ((layRp (pre.map nx)).length : Nat)) ∧ Mod (fun _ => False) w W ∧ N ≤ W.heap.size
theorem szI_own (w : World) (B N C : Nat) (hB : w.heap.size ≤ C) : OwnFrom C (SzI w B N) := by
 rintro pre W W' row ⟨h1, h4, h5⟩ hg hr
 have hr2 := fun r e => (hr r e).2
 exact ⟨bx_turned h1 hg hr2, Mod.turned h4 hg (fun r e => Nat.le_trans hB (hr r e).1), Nat.le_trans h5 hg.size⟩
theorem layRp_len : ∀ l : List (Nat × Nat), (∀ p ∈ l, p.1 < 2 ^ 32 ∧ p.2 < 2 ^ 33) → (layRp l).length ≤ 20 * l.length
 | [], _ => by simp [layRp]
 | x :: r, h => by
   obtain ⟨h1, h2⟩ := h x (by simp)
   have g1 := lebl_len64 x.1 (by omega)
   have g2 := lebl_len64 x.2 (by omega)
   have ih := layRp_len r (fun p hp => h p (by simp [hp]))
   unfold layRp at ih ⊢
   simp only [List.flatMap_cons, List.length_append, List.length_cons]
   omega
theorem rns_len : ∀ (m : Nat) (c : List Nat), c.length ≤ m → (rns c).length ≤ c.length
 | m, [], _ => by rw [rns]; simp
 | 0, x :: r, h => by simp at h
 | m + 1, x :: r, h => by
   rw [rns]
   have ih := rns_len m (r.drop (r.takeWhile (· == x)).length) (by simp only [List.length_drop, List.length_cons] at h ⊢; omega)
   simp only [List.length_drop, List.length_cons] at ih ⊢
   omega
theorem size3_any (a : Option Addr) (d : Nat) (c : List Nat) (w : World) (hr : Rd w a (u32s c)) (hu : U32 c) (hn : c.length ≤ 65536) (hab : ∀ b, blk a = some b → b < w.heap.size) :
 Calls Tryz.prog 179 #[.slice a c.length d] w fun e w' => e = .returned (.int .i64 ((layR c).length : Nat)) ∧ Mod (fun _ => False) w w' := by
 refine (callsIn_wide (n := 3)).1 ?_
 refine callsIn_of_wp_marks Tryz.func179 rfl trivial ?_ rfl
 simp only [Tryz.ntmps179, List.size_toArray, List.length_cons, List.length_nil, Nat.reduceAdd, Nat.reduceSub, Array.replicate_succ, Array.replicate_zero, List.push_toArray, List.append_toArray, List.nil_append, List.cons_append]
 have HR := Hi hr; have HU := Hi hu; have HAB := Hi hab
 clear hr hu hab
 gi_wp2_with fail
 have m1 : Mod (fun _ => False) w (w.alloc (.cells #[.int .i64 0] 3)) := (Mod.refl _ w).alloc _
 have b1 : Boxed (w.alloc (.cells #[.int .i64 0] 3)) w.heap.size 3 (.int .i64 0) := Boxed.new _ _ _
 have z1 : (w.alloc (.cells #[.int .i64 0] 3)).heap.size = w.heap.size + 1 := by simp
 obtain ⟨w1, hw1⟩ : ∃ v, v = w.alloc (.cells #[.int .i64 0] 3) := ⟨_, rfl⟩
 rw [← hw1] at m1 b1 z1 ⊢
 clear hw1
 refine (callsIn_wide.2 (runs_any a c.length d w1)).mono ?_
 rintro e w2 ⟨rfl, hw2⟩
 have m2 : Mod (fun _ => False) w1 w2 := by rw [hw2]; exact (Mod.refl _ w1).alloc _
 have hV : w2.heap[w1.heap.size]? = some (.cells #[.slice a c.length d] 162 (0, 0)) := by rw [hw2]; exact heap_alloc_new w1 _
 have z2 : w2.heap.size = w1.heap.size + 1 := by rw [hw2]; simp
 have HB := Hi (bx_mod b1 m2 id); have HM := Hi (m1.trans m2); have HZ1 := Hi z1; have HZ2 := Hi z2
 clear hw2 m1 b1 m2 z1 z2
 have hSeq := runs_stops 2 w1.heap.size w.heap.size c a d w2 hn HU.out hV (by have := HZ1.out; have := HZ2.out; omega) (HR.out.mod HM.out (fun _ _ => id)) HAB.out
 have hKb := KpV.putObj (w := w2) (hi := w.heap.size) (V := w1.heap.size) (by have := HZ1.out; have := HZ2.out; omega) (by have := HZ2.out; omega)
 have HRL : Hid (layR c = layRp (rns c)) := Hi rfl
 have HRN := Hi (rns_len _ c (Nat.le_refl _))
 have HRB := Hi (rns_lt _ c (Nat.le_refl _) HU.out (by omega))
 generalize w1.heap.size = V at *
 clear hV
 gi_wp2_with fail
 refine wpIn_rangeFunc_ownG rfl (by omega) (gf := 195) (lb := #[.pointer (some ⟨V, 0, none⟩)]) rfl trivial (enters_of Tryz.func195 (by kernel_rfl) rfl)
  hSeq (fun h k => KpV.trans h k) hKb (Below.refl _ _) (fun _ => rfl) (SzI w w.heap.size w2.heap.size) (fun _ _ _ => False) (szI_own w w.heap.size w2.heap.size w2.heap.size (by have := HZ1.out; have := HZ2.out; omega)) (fun c => by rintro pre W W' row h; exact h.elim) ⟨HB.out, HM.out, Nat.le_refl _⟩
  (fun x => { tmps := #[.slice a c.length d, undef, .int .i64 0, .pointer (some ⟨w.heap.size, 0, none⟩), .int .u32 (x.1 % 4294967296 : Nat), .int .i64 (x.2 % 8589934592 : Nat), .slice a c.length d, .func (.func 195) #[] #[.pointer (some ⟨V, 0, none⟩)], .int .u32 (x.1 % 4294967296 : Nat), .int .i64 (x.2 % 8589934592 : Nat), undef, undef, undef, undef, undef, undef, undef, undef, undef, undef], defers := [] })
  ?assign ?body ?done ?stop
 case assign =>
  rintro l1 x W K hK
  simp only [encQ]
  gi_wp2
  exact hK
 case body =>
  rintro l1 pre x W ⟨h1, h4, h5⟩ hlt
  have HX : Hid (layRp ((pre ++ [x]).map nx) = layRp (pre.map nx) ++ (lebl (x.1 % 4294967296) ++ lebl (x.2 % 8589934592))) := Hi (by rw [List.map_append]; exact layRp_snoc _ _)
  have hx1 : x.1 % 4294967296 < 4294967296 := Nat.mod_lt _ (by omega)
  have hx2 : x.2 % 8589934592 < 8589934592 := Nat.mod_lt _ (by omega)
  have hll : (layRp (pre.map nx)).length ≤ 20 * 65536 := by
   have g1 := layRp_len (pre.map nx) (nx_ok pre)
   have g2 := HRN.out
   rw [List.length_map] at g1
   omega
  generalize layRp (pre.map nx) = lp at *
  generalize x.1 % 4294967296 = y1 at *
  generalize x.2 % 8589934592 = y2 at *
  have d1 := h1.cell; have f1 := h1.frozen
  have H1 := Hi h1; have H4 := Hi h4; have H5 := Hi h5
  have g1 := lebl_len64 y1 (by omega); have g2 := lebl_len64 y2 (by omega)
  have S1 := Hi (fun W => size_any y1 (by omega) W); have S2 := Hi (fun W => size_any y2 (by omega) W)
  have HLX : Hid ((layRp ((pre ++ [x]).map nx)).length = lp.length + ((lebl y1).length + (lebl y2).length)) := Hi (by rw [HX.out]; simp)
  clear h1 h4 h5 hSeq hKb HX
  generalize (lebl y1).length = s1 at *
  generalize (lebl y2).length = s2 at *
  generalize hlp : lp.length = s0 at *
  gi_wp2_with fail
  refine wpIn_region_ord (fun w' => w'.cell? ⟨w.heap.size, 0, none⟩ = some (.int .i64 (s0 : Nat))) [(1, 0), (0, 1), (0, 2), (0, 4), (0, 5), (2, 3), (2, 6), (0, 7), (0, 8), (3, 9)] (by kernel_rfl) (by kernel_rfl) (by kernel_rfl) ?_
  go_wp2_with (first
   |(refine ord_pure rfl rfl rfl (fun K hK => ?_); go_big_quiet_op; refine hK _ ?_; clear hK K)
   |(refine ord_skip rfl rfl ?_; simp only [Act.put, List.setIfInBounds_toArray, List.set_cons_zero, List.set_cons_succ])
   |(refine ord_held rfl rfl rfl (d1) (fun K hK => ?_); apply Exists.intro; refine ⟨fun w' hs => ?_, hK _ ?_⟩; (revert hs; dsimp only; (try simp only [and_imp]); intros; go_simp; rfl); clear hK K)
   |(refine ord_keep rfl rfl (d1) (fun K hK => ?_))
   |(refine ord_drop rfl rfl (fun K hK => ?_))
   |(refine ord_nil ?_))
  refine (S1.out _).mono ?_
  rintro e w' ⟨rfl, hw⟩
  obtain rfl : W.drew = w' := hw
  refine hK _ _ d1 ?_
  clear hK K
  go_wp2_with (first
   |(refine ord_pure rfl rfl rfl (fun K hK => ?_); go_big_quiet_op; refine hK _ ?_; clear hK K)
   |(refine ord_skip rfl rfl ?_; simp only [Act.put, List.setIfInBounds_toArray, List.set_cons_zero, List.set_cons_succ])
   |(refine ord_held rfl rfl rfl (d1) (fun K hK => ?_); apply Exists.intro; refine ⟨fun w' hs => ?_, hK _ ?_⟩; (revert hs; dsimp only; (try simp only [and_imp]); intros; go_simp; rfl); clear hK K)
   |(refine ord_keep rfl rfl (d1) (fun K hK => ?_))
   |(refine ord_drop rfl rfl (fun K hK => ?_))
   |(refine ord_nil ?_))
  refine (S2.out _).mono ?_
  rintro e w' ⟨rfl, hw⟩
  obtain rfl : W.drew = w' := hw
  refine hK _ _ d1 ?_
  clear hK K
  go_wp2_with (first
   |(refine ord_pure rfl rfl rfl (fun K hK => ?_); go_big_quiet_op; refine hK _ ?_; clear hK K)
   |(refine ord_skip rfl rfl ?_; simp only [Act.put, List.setIfInBounds_toArray, List.set_cons_zero, List.set_cons_succ])
   |(refine ord_held rfl rfl rfl (d1) (fun K hK => ?_); apply Exists.intro; refine ⟨fun w' hs => ?_, hK _ ?_⟩; (revert hs; dsimp only; (try simp only [and_imp]); intros; go_simp; rfl); clear hK K)
   |(refine ord_keep rfl rfl (d1) (fun K hK => ?_))
   |(refine ord_drop rfl rfl (fun K hK => ?_))
   |(refine ord_nil ?_))
  have hM : Mod (fun k => k = w.heap.size) W (W.setCell ⟨w.heap.size, 0, none⟩ (.int .i64 ((s0 : Int) + ((s1 : Int) + (s2 : Int))))).drew := ((Mod.refl (fun k => k = w.heap.size) W).setCell (p := ⟨w.heap.size, 0, none⟩) (fun _ => rfl) _).drew
  have hbx := bx_put H1.out (.int .i64 ((s0 : Int) + ((s1 : Int) + (s2 : Int))))
  have q1 := HZ1.out; have q2 := HZ2.out; have q5 := H5.out
  refine ⟨keepsFrom_mod hM ?_, KpV.of_mod hM H4.out.size (by omega) ?_, ?_, H4.out.step hM (fun i hi e => by omega), Nat.le_trans q5 hM.size⟩
  ·rintro k rfl o ho
   have := H1.out
   unfold Boxed at this
   rw [this] at ho; cases ho; rfl
  ·rintro k (hk | hk) e <;> omega
  ·have e : (((layRp ((pre ++ [x]).map nx)).length : Nat) : Int) = (s0 : Int) + ((s1 : Int) + (s2 : Int)) := by rw [HLX.out]; push_cast; rfl
   rw [e]
   exact hbx
 case done =>
  rintro D ys W hD he ⟨h1, h4, h5⟩ hK
  have he2 : ys = rns c := he
  subst he2
  have d1 := h1.cell
  have H4 := Hi h4
  have HK := Hi hK; have HD := Hi hD
  have HLL : Hid (layRp ((rns c).map nx) = layR c) := Hi (by rw [nx_rns HRB.out, HRL.out])
  rw [HLL.out] at d1
  clear h1 h4 h5 hK hKb hSeq hD
  gi_wp2
  have hG := Mod.ofGrown (grownBy_putObj' W D (.deferred none))
  have hD := HD.out; have hZ := HZ2.out
  refine ⟨by simp, .inl ⟨_, _, rfl, run_takeDeferred HK.out, ?_⟩⟩
  refine ⟨.int .i64 ((layR c).length : Nat), by simp [results, Tryz.f179, go_sem], rfl, H4.out.step hG (fun i hi e => by cases e; have := HM.out.size; omega)⟩
 case stop =>
  rintro D cc pre W hD hpre h
  exact h.elim
end Go.Proofs.YtjoiaejbahdjkaaGreat
/-
  The program's runs laid: walked.
-/
namespace Go.Proofs.YtjoiaejbahdjkaaGreat
open Go Go.RowKit Go.Mine
set_option linter.unusedVariables false
set_option maxHeartbeats 8000000
set_option maxRecDepth 100000
attribute [local go_sem] Oper.semAt_some
@[local go_sem, local simp] theorem wide_fnU (f : FuncId) : Fence.wide.fn f = True := rfl
@[local go_sem, local simp] theorem wide_depthU : Fence.wide.depth = none := rfl
theorem WrS.turned {w0 W W' : World} {p : Nat} {l : List UInt8} {row : Option Nat} (h : WrS w0 W p l) (hg : W.grownBy W' row) (hr : ∀ r, row = some r → w0.heap.size ≤ r ∧ ∃ o : Obj, W.heap[r]? = some o ∧ o.isCells = false) : WrS w0 W' p l := by
 obtain ⟨a, ⟨h1, c, h2, h3⟩, h4, h5, h6⟩ := h
 have hr2 := fun r e => (hr r e).2
 exact ⟨a, ⟨h1, c, (Mod.ofGrown hg).at h2 (cells_ne hr2 h2), Mine.Own.turned h3 hg hr2⟩, h4, h5, Mod.turned h6 hg (fun r e => (hr r e).1)⟩
structure LyI (w0 : World) (p B V N : Nat) (vb : Value) (l : List UInt8) (pre : List (Nat × Nat)) (W : World) : Prop where
 wr : WrS w0 W p (l ++ layRp (pre.map nx))
 bx : Boxed W B 125 (.pointer (some ⟨p, 0, none⟩))
 vx : Boxed W V 162 vb
 sz : N ≤ W.heap.size
theorem lyI_own (w0 : World) (p B V N : Nat) (vb : Value) (l : List UInt8) (C : Nat) (hC : w0.heap.size ≤ C) : OwnFrom C (LyI w0 p B V N vb l) := by
 rintro pre W W' row ⟨h1, h2, h3, h4⟩ hg hr
 have hr2 := fun r e => (hr r e).2
 exact ⟨h1.turned hg (fun r e => ⟨Nat.le_trans hC (hr r e).1, hr2 r e⟩), bx_turned h2 hg hr2, bx_turned h3 hg hr2, Nat.le_trans h4 hg.size⟩
theorem lay3_any {w0 w : World} {p : Nat} {l : List UInt8} (h : WrS w0 w p l) (a : Option Addr) (d : Nat) (c : List Nat) (hr : Rd w0 a (u32s c)) (hu : U32 c) (hn : c.length ≤ 65536) (hl : l.length < 100) (hab : ∀ b, blk a = some b → b < w0.heap.size) :
 Calls Tryz.prog 181 #[.pointer (some ⟨p, 0, none⟩), .slice a c.length d] w fun e w' => e = .returned (.tuple #[]) ∧ WrS w0 w' p (l ++ layR c) := by
 refine (callsIn_wide (n := 3)).1 ?_
 refine callsIn_of_wp_marks Tryz.func181 rfl trivial ?_ rfl
 simp only [Tryz.ntmps181, List.size_toArray, List.length_cons, List.length_nil, Nat.reduceAdd, Nat.reduceSub, Array.replicate_succ, Array.replicate_zero, List.push_toArray, List.append_toArray, List.nil_append, List.cons_append]
 have H := Hi h; have HR := Hi hr; have HU := Hi hu; have HAB := Hi hab
 have HW0 := Hi h.md.size
 clear h hr hu hab
 gi_wp2_with fail
 have m1 : Mod (fun _ => False) w (w.alloc (.cells #[.pointer (some ⟨p, 0, none⟩)] 125)) := (Mod.refl _ w).alloc _
 have b1 : Boxed (w.alloc (.cells #[.pointer (some ⟨p, 0, none⟩)] 125)) w.heap.size 125 (.pointer (some ⟨p, 0, none⟩)) := Boxed.new _ _ _
 have z1 : (w.alloc (.cells #[.pointer (some ⟨p, 0, none⟩)] 125)).heap.size = w.heap.size + 1 := by simp
 obtain ⟨w1, hw1⟩ : ∃ v, v = w.alloc (.cells #[.pointer (some ⟨p, 0, none⟩)] 125) := ⟨_, rfl⟩
 rw [← hw1] at m1 b1 z1 ⊢
 clear hw1
 refine (callsIn_wide.2 (runs_any a c.length d w1)).mono ?_
 rintro e w2 ⟨rfl, hw2⟩
 have m2 : Mod (fun _ => False) w1 w2 := by rw [hw2]; exact (Mod.refl _ w1).alloc _
 have hV : w2.heap[w1.heap.size]? = some (.cells #[.slice a c.length d] 162 (0, 0)) := by rw [hw2]; exact heap_alloc_new w1 _
 have z2 : w2.heap.size = w1.heap.size + 1 := by rw [hw2]; simp
 have HB := Hi (bx_mod b1 m2 id); have HWS := Hi (H.out.mod0 (m1.trans m2)); have HZ1 := Hi z1; have HZ2 := Hi z2
 clear hw2 m1 b1 m2 z1 z2 H
 have hVB : Boxed w2 w1.heap.size 162 (.slice a c.length d) := hV
 have hSeq := runs_stops 2 w1.heap.size w0.heap.size c a d w2 hn HU.out hV (by have := HZ1.out; have := HZ2.out; have := HW0.out; omega) (HR.out.mod HWS.out.md (fun _ _ => id)) HAB.out
 have hKb := KpV.putObj (w := w2) (hi := w0.heap.size) (V := w1.heap.size) (by have := HZ1.out; have := HZ2.out; have := HW0.out; omega) (by have := HZ2.out; omega)
 have HRL : Hid (layR c = layRp (rns c)) := Hi rfl
 have HRN := Hi (rns_len _ c (Nat.le_refl _))
 have HRB := Hi (rns_lt _ c (Nat.le_refl _) HU.out (by omega))
 have HVB := Hi hVB
 generalize w1.heap.size = V at *
 clear hV hVB
 gi_wp2_with fail
 refine wpIn_rangeFunc_ownG rfl (by omega) (gf := 195) (lb := #[.pointer (some ⟨V, 0, none⟩)]) rfl trivial (enters_of Tryz.func195 (by kernel_rfl) rfl)
  hSeq (fun h k => KpV.trans h k) hKb (Below.refl _ _) (fun _ => rfl) (LyI w0 p w.heap.size V w2.heap.size (.slice a c.length d) l) (fun _ _ _ => False) (lyI_own w0 p w.heap.size V w2.heap.size _ l w2.heap.size (by have := HZ1.out; have := HZ2.out; have := HW0.out; omega)) (fun c => by rintro pre W W' row h; exact h.elim) ⟨by simpa [layRp] using HWS.out, HB.out, HVB.out, Nat.le_refl _⟩
  (fun x => { tmps := #[.pointer (some ⟨p, 0, none⟩), .slice a c.length d, .pointer (some ⟨w.heap.size, 0, none⟩), undef, .int .u32 (x.1 % 4294967296 : Nat), .int .i64 (x.2 % 8589934592 : Nat), .slice a c.length d, .func (.func 195) #[] #[.pointer (some ⟨V, 0, none⟩)], .int .u32 (x.1 % 4294967296 : Nat), .int .i64 (x.2 % 8589934592 : Nat), undef, undef, undef, undef, undef, undef, undef], defers := [] })
  ?assign ?body ?done ?stop
 case assign =>
  rintro l1 x W K hK
  simp only [encQ]
  gi_wp2
  exact hK
 case body =>
  rintro l1 pre x W ⟨h1, h2, h3, h4⟩ hlt
  have HX : Hid (layRp ((pre ++ [x]).map nx) = layRp (pre.map nx) ++ (lebl (x.1 % 4294967296) ++ lebl (x.2 % 8589934592))) := Hi (by rw [List.map_append]; exact layRp_snoc _ _)
  have hx1 : x.1 % 4294967296 < 4294967296 := Nat.mod_lt _ (by omega)
  have hx2 : x.2 % 8589934592 < 8589934592 := Nat.mod_lt _ (by omega)
  have hll : (layRp (pre.map nx)).length ≤ 20 * 65536 := by
   have g1 := layRp_len (pre.map nx) (nx_ok pre)
   have g2 := HRN.out
   rw [List.length_map] at g1
   omega
  generalize layRp (pre.map nx) = lp at *
  generalize x.1 % 4294967296 = y1 at *
  generalize x.2 % 8589934592 = y2 at *
  obtain ⟨wa, hWA, hp0, ha0, hmm⟩ := h1
  have hlt1 : p < W.heap.size := (Array.getElem?_eq_some_iff.1 hWA.2.choose_spec.1).1
  have hlta : ∀ b, blk wa = some b → b < W.heap.size := hWA.2.choose_spec.2.lt
  have m1 : Mod (fun _ => False) W (W.alloc (.cells (u64s [y1, y2]).toArray 66)) := (Mod.refl _ W).alloc _
  have HN := Hi (num_any p wa (l ++ lp) [y1, y2] (some ⟨W.heap.size, 0, none⟩) 2 _ (hWA.mod m1 id (fun _ _ => id)) (Rd.news W (u64s [y1, y2]) 66) (fun e => by simp [blk] at e; omega) (fun b hb hh => by simp [blk] at hb; have := hlta b hh; omega) (fun n hn => by simp at hn; omega) (by simp only [List.length_append, List.length_cons, List.length_nil]; omega))
  have d2 := h2.cell
  have HWA := Hi hWA; have HA0 := Hi ha0; have HMM := Hi hmm; have H2 := Hi h2; have H3 := Hi h3; have H4 := Hi h4; have HP0 := Hi hp0; have HM1 := Hi m1
  clear hWA ha0 hmm h2 h3 h4 hp0 hlt1 hlta m1 hSeq hKb
  gi_wp2_with fail
  refine CallsIn.mono (CallsIn.inRound l1 (callsIn_wide.2 HN.out)) ?_
  rintro e w3 ⟨rfl, a', g1, g2⟩
  have G1 := Hi g1; have G2 := Hi (WrGo.pre0 HM1.out g2)
  clear g1 g2 HN
  gi_wp2_with fail
  have hM := G2.out.mod
  obtain ⟨hne, c1, hpp, hOO⟩ := HWA.out
  have hBp : w.heap.size ≠ p := fun e => by
   have h := H2.out
   unfold Boxed at h
   rw [e, hpp] at h
   cases h
  have hVp : V ≠ p := fun e => by
   have h := H3.out
   unfold Boxed at h
   rw [e, hpp] at h
   simp at h
  have hBa : blk wa ≠ some w.heap.size := fun e => by
   obtain ⟨cur, hc⟩ := Mine.Own.blk_cells hOO _ e
   have h := H2.out
   unfold Boxed at h
   rw [hc] at h
   cases h
  have hVa : blk wa ≠ some V := fun e => by
   obtain ⟨cur, hc⟩ := Mine.Own.blk_cells hOO _ e
   have h := H3.out
   unfold Boxed at h
   rw [hc] at h
   cases h
  have q1 := HZ1.out; have q2 := HZ2.out; have q4 := H4.out; have q0 := HW0.out; have qp := HP0.out
  refine ⟨keepsFrom_mod hM ?_, KpV.of_mod hM (by omega) (by omega) ?_, ⟨?_, ?_, ?_, Nat.le_trans q4 hM.size⟩⟩
  ·rintro k (rfl | h) o ho
   ·rw [hpp] at ho; cases ho; rfl
   ·obtain ⟨cur, hc⟩ := Mine.Own.blk_cells hOO k h
    rw [hc] at ho; cases ho; rfl
  ·rintro k hk (e | e)
   ·rcases hk with hk | hk
    ·omega
    ·exact hVp (hk.symm.trans e)
   ·have := HA0.out k e
    rcases hk with hk | hk
    ·omega
    ·subst hk; exact hVa e
  ·rw [HX.out]
   have h9 := WrS.go HP0.out HA0.out HMM.out G1.out G2.out
   simpa [List.append_assoc] using h9
  ·exact bx_mod H2.out hM (fun e => e.elim hBp hBa)
  ·exact bx_mod H3.out hM (fun e => e.elim hVp hVa)
 case done =>
  rintro D ys W hD he ⟨h1, h2, h3, h4⟩ hK
  have he2 : ys = rns c := he
  subst he2
  have HLL : Hid (layRp ((rns c).map nx) = layR c) := Hi (by rw [nx_rns HRB.out, HRL.out])
  rw [HLL.out] at h1
  have H1 := Hi h1
  have HK := Hi hK; have HD := Hi hD
  clear h1 h2 h3 h4 hK hKb hSeq hD
  gi_wp2
  refine ⟨by simp, .inl ⟨_, _, rfl, run_takeDeferred HK.out, ?_⟩⟩
  have q1 := HZ1.out; have q2 := HZ2.out; have q0 := HW0.out; have qD := HD.out
  refine ⟨.tuple #[], by simp [results, Tryz.f181, go_sem], rfl, H1.out.turned (grownBy_putObj' W D (.deferred none)) (fun r e => ?_)⟩
  cases e
  exact ⟨by omega, _, HK.out, rfl⟩
 case stop =>
  rintro D cc pre W hD hpre h
  exact h.elim
end Go.Proofs.YtjoiaejbahdjkaaGreat
