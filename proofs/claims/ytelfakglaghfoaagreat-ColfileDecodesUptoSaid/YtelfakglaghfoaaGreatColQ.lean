/-
  The program's runs: what the iterator gives.
-/
import Derived.Test.YtelfakglaghfoaaGreatColO
import Derived.Test.YtelfakglaghfoaaGreatRng
namespace Go.Proofs.YtelfakglaghfoaaGreat
open Go Go.RowKit Go.Mine
set_option linter.unusedVariables false
set_option maxHeartbeats 8000000
set_option maxRecDepth 100000

/-- what a round keeps: what lay below, and one box -/
structure KpV (hi V : Nat) (W W' : World) : Prop where
  size : W.heap.size ≤ W'.heap.size
  same : ∀ k, k < hi ∨ k = V → W'.heap[k]? = W.heap[k]?
theorem KpV.trans {hi V : Nat} {A1 A2 A3 : World} (h : KpV hi V A1 A2) (k : KpV hi V A2 A3) : KpV hi V A1 A3 :=
  ⟨Nat.le_trans h.size k.size, fun i h2 => (k.same i h2).trans (h.same i h2)⟩
theorem KpV.of_mod {S : Nat → Prop} {hi V : Nat} {W W' : World} (h : Mod S W W') (hl : hi ≤ W.heap.size) (hV : V < W.heap.size) (hs : ∀ k, k < hi ∨ k = V → ¬ S k) : KpV hi V W W' :=
  ⟨h.size, fun k h2 => h.block k (by omega) (hs k h2)⟩
theorem KpV.putObj {hi V : Nat} {w : World} (hh : hi ≤ w.heap.size) (hV : V < w.heap.size) (W : World) (l : Nat) (o o' : Obj) (hl : w.heap.size ≤ l) (h : W.heap[l]? = some o) (hc : o.isCells = false) (_ : o.isWalk = false) : KpV hi V W (W.putObj l o') :=
  ⟨by simp, fun k h2 => World.putObj_heap_other (by omega)⟩
theorem runs_any (a : Option Addr) (n d : Nat) (w : World) :
    Calls Tryz.prog 96 #[.slice a n d] w fun e w' => e = .returned (.func (.func 116) #[] #[.pointer (some ⟨w.heap.size, 0, none⟩)]) ∧ w' = w.alloc (.cells #[.slice a n d] 68) := by
  go_enter Tryz.func96, Tryz.ntmps96
  go_wp2
  go_ret
  exact ⟨rfl, rfl⟩
attribute [local go_sem] Oper.semAt_some
@[local go_sem, local simp] theorem wide_fnQ (f : FuncId) : Fence.wide.fn f = True := rfl
@[local go_sem, local simp] theorem wide_depthQ : Fence.wide.depth = none := rfl
def encQ (x : Nat × Nat) : Array Value := #[.int .u32 (x.1 % 4294967296 : Nat), .int .i64 (x.2 % 8589934592 : Nat)]
theorem runs1_in (n l V hi : Nat) (c : List Nat) (a : Option Addr) (d : Nat) (J Jx : List (Nat × Nat) → World → Prop) (W : World) (hn : c.length ≤ 65536) (hu : U32 c)
    (hJs : ∀ pre W1 W2, Mod (fun _ => False) W1 W2 → J pre W1 → J pre W2)
    (hY : ∀ pre x W1, J pre W1 → pre.length < (rns c).length → YieldAt Fence.wide (n - 1) Tryz.prog l (encQ x) W1 fun e W' =>
      (e = .returned (.bool true) ∧ J (pre ++ [x]) W' ∧ KpV hi V W1 W') ∨ (e = .returned (.bool false) ∧ Jx (pre ++ [x]) W'))
    (hV : W.heap[V]? = some (.cells #[.slice a c.length d] 68 (0, 0))) (hhi : hi ≤ W.heap.size) (hR : Rd W a (u32s c)) (hab : ∀ b, blk a = some b → b < hi) (h0 : J [] W) :
    CallsIn Fence.wide n Tryz.prog 116 #[.func (.yield l) #[] #[], .pointer (some ⟨V, 0, none⟩)] W fun e W' => (∃ v, e = .returned v) ∧
      ((∃ ys, ys = rns c ∧ J ys W') ∨ (∃ pre, pre <+: rns c ∧ Jx pre W')) := by
  refine callsIn_of_wp Tryz.func116 rfl trivial ?_ rfl
  simp only [Tryz.ntmps116, List.size_toArray, List.length_cons, List.length_nil, Nat.reduceAdd, Nat.reduceSub, Array.replicate_succ, Array.replicate_zero, List.push_toArray, List.append_toArray, List.nil_append, List.cons_append]
  have HY := Lib.hid hY; have HR := Lib.hid hR; have HAB := Lib.hid hab; have H0 := Lib.hid h0; have HJS := Lib.hid hJs; have HV := Lib.hid hV; have HHI := Lib.hid hhi; have HU := Lib.hid hu
  clear hY hV hR hab h0 hJs hhi hu
  gi_wp2_with fail
  gi_loopw [3, 4] (fun iv _ wr => ∃ (i : Nat) (pre : List (Nat × Nat)), iv = .int .i64 i ∧ i ≤ c.length ∧ Hid (rns c = pre ++ rns (c.drop i)) ∧ Hid (J pre wr) ∧ Hid (KpV hi V W wr)) (fun iv _ _ => c.length - (intOf iv).toNat)
  case atStart => exact ⟨0, [], rfl, Nat.zero_le _, Lib.hid rfl, H0, Lib.hid ⟨Nat.le_refl _, fun _ _ => rfl⟩⟩
  case round =>
    obtain ⟨i, pre, rfl, hi', hP, hJ, hKp⟩ := hrel
    have hVw : wr.heap[V]? = some (.cells #[.slice a c.length d] 68 (0, 0)) := by rw [hKp.out.same V (.inr rfl)]; exact HV.out
    have cV := cell_at (j := 0) hVw rfl
    clear hVw
    by_cases hlt : i < c.length
    · have hrd := rd_of_same HR.out (fun k hk => hKp.out.same k (.inl hk)) HAB.out
      obtain ⟨b, o, rfl, x0⟩ := u32_cell hrd hlt
      have HRD := Lib.hid hrd
      have hx32 := HU.out _ (List.getElem_mem hlt)
      obtain ⟨hT1, hT2, hTA, hTE, hTR⟩ := run_at c i hlt
      have HTA := Lib.hid hTA; have HTE := Lib.hid hTE; have HTR := Lib.hid hTR
      clear hTA hTE hTR hrd
      generalize runT c i = T at *
      rename World => wq
      gi_wp2_with fail
      refine (wpIn_wide (n := n)).2 ?_
      go_loopw [4] (fun kv wr => ∃ k : Nat, kv = .int .i64 k ∧ i ≤ k ∧ k ≤ i + T ∧ Hid (Mod (fun _ => False) wq wr)) (fun kv _ => i + T - (intOf kv).toNat)
      case atStart => exact ⟨i, rfl, Nat.le_refl _, by omega, Lib.hid (Mod.refl _ _)⟩
      case round =>
        obtain ⟨k, rfl, h1, h2, hm⟩ := hrel
        have x0' := hm.out.cell x0 id
        have cV' := hm.out.cell cV id
        by_cases hkT : k < i + T
        · obtain ⟨b', o', e', y0⟩ := u32_cell (HRD.out.mod hm.out (fun _ _ => id)) (i := k) (by omega)
          cases e'
          rw [HTA.out k h1 hkT (by omega)] at y0
          generalize c[i] = x at *
          have hklen : k < c.length := by omega
          go_wp2_with fail
          refine wp_region_ord (fun w' => w'.cell? ⟨V, 0, none⟩ = some (.slice (some ⟨b, o, none⟩) c.length d) ∧ w'.cell? ⟨b, o + k, none⟩ = some (.int .u32 (x : Nat)) ∧ w'.cell? ⟨b, o + i, none⟩ = some (.int .u32 (x : Nat))) [(0, 0), (1, 1), (0, 2), (0, 3), (0, 4), (1, 5), (0, 6), (0, 7), (1, 8), (1, 9), (0, 10), (0, 11), (1, 12), (0, 13), (0, 14)] (by kernel_rfl) (by kernel_rfl) ?_
          go_wp2_with (first
            | (refine ord_pure rfl rfl rfl (fun K hK => ?_); go_big_quiet_op; refine hK _ ?_; clear hK K)
                                                                | (refine ord_skip rfl rfl ?_; simp only [Act.put, List.setIfInBounds_toArray, List.set_cons_zero, List.set_cons_succ])
                                                                | (refine ord_held rfl rfl rfl (⟨cV', y0, x0'⟩) (fun K hK => ?_); apply Exists.intro; refine ⟨fun w' hs => ?_, hK _ ?_⟩; (revert hs; dsimp only; (try simp only [and_imp]); intros; go_simp; rfl); clear hK K)
                                                                | (refine ord_keep rfl rfl (⟨cV', y0, x0'⟩) (fun K hK => ?_))
                                                                | (refine ord_drop rfl rfl (fun K hK => ?_))
                                                                | (refine ord_nil ?_))
          go_roundw
          case rel => exact ⟨k + 1, by go_num, by omega, by omega, Lib.hid hm.out.drew⟩
          case measure => simp [intOf]; omega
        · have HKK := Lib.hid (show k = i + T by omega)
          have hik : k ≤ c.length := by omega
          clear hkT h2
          by_cases hke : k < c.length
          · obtain ⟨b', o', e', y0⟩ := u32_cell (HRD.out.mod hm.out (fun _ _ => id)) (i := k) hke
            cases e'
            have hne : c[k] ≠ c[i] := by have := HTE.out (by rw [← HKK.out]; exact hke); simp only [← HKK.out] at this; exact this
            generalize c[i] = x at *
            generalize c[k] = y at *
            have hbe : ((y : Int) == (x : Int)) = false := by simp; omega
            go_wp2_with fail
            refine wp_region_ord (fun w' => w'.cell? ⟨V, 0, none⟩ = some (.slice (some ⟨b, o, none⟩) c.length d) ∧ w'.cell? ⟨b, o + k, none⟩ = some (.int .u32 (y : Nat)) ∧ w'.cell? ⟨b, o + i, none⟩ = some (.int .u32 (x : Nat))) [(0, 0), (1, 1), (0, 2), (0, 3), (0, 4), (1, 5), (0, 6), (0, 7), (1, 8), (1, 9), (0, 10), (0, 11), (1, 12), (0, 13), (0, 14)] (by kernel_rfl) (by kernel_rfl) ?_
            go_wp2_with (first
              | (refine ord_pure rfl rfl rfl (fun K hK => ?_); go_big_quiet_op; refine hK _ ?_; clear hK K)
                                                                | (refine ord_skip rfl rfl ?_; simp only [Act.put, List.setIfInBounds_toArray, List.set_cons_zero, List.set_cons_succ])
                                                                | (refine ord_held rfl rfl rfl (⟨cV', y0, x0'⟩) (fun K hK => ?_); apply Exists.intro; refine ⟨fun w' hs => ?_, hK _ ?_⟩; (revert hs; dsimp only; (try simp only [and_imp]); intros; go_simp; rfl); clear hK K)
                                                                | (refine ord_keep rfl rfl (⟨cV', y0, x0'⟩) (fun K hK => ?_))
                                                                | (refine ord_drop rfl rfl (fun K hK => ?_))
                                                                | (refine ord_nil ?_))
            clear y0 hbe
            have x5 : wr.drew.cell? ⟨b, o + i, none⟩ = some (.int .u32 (x : Nat)) := x0'
            have v5 : wr.drew.cell? ⟨V, 0, none⟩ = some (.slice (some ⟨b, o, none⟩) c.length d) := cV'
            have hJ5 := HJS.out pre wq wr.drew hm.out.drew hJ.out
            have hK5 : KpV hi V W wr.drew := KpV.trans hKp.out (KpV.of_mod hm.out.drew (Nat.le_trans HHI.out hKp.out.size) (Nat.lt_of_lt_of_le (Array.getElem?_eq_some_iff.1 HV.out).1 hKp.out.size) (fun _ _ => id))
            have hkt : ((k : Int) - i) = (T : Int) := by have := HKK.out; omega
            clear x0' cV' x0 cV hm
            generalize wr.drew = w5 at *
            obtain ⟨fn, tmps, assign, body, hy0, hRr⟩ := HY.out pre (x, T) w5 hJ5 (by rw [hP.out, HTR.out]; simp)
            have HRr := Lib.hid hRr; have HK5 := Lib.hid hK5
            clear hRr hJ5 hK5
            have hxm : x % 4294967296 = x := Nat.mod_eq_of_lt (by omega)
            have hTm : T % 8589934592 = T := Nat.mod_eq_of_lt (by omega)
            unfold encQ at hy0
            simp only at hy0
            rw [hxm, hTm] at hy0
            gi_wp2
            refine HRr.out.mono ?_
            rintro e W3 (⟨rfl, hJ3, hk3⟩ | ⟨rfl, hJx3⟩)
            · have HK3 := Lib.hid (KpV.trans HK5.out hk3); have HJ3 := Lib.hid hJ3
              clear hk3 hJ3
              gi_wp2
              go_roundw
              case rel => exact ⟨k, pre ++ [(x, T)], rfl, hik, Lib.hid (by rw [hP.out, HTR.out, HKK.out]; simp), HJ3, HK3⟩
              case measure => have := HKK.out; simp [intOf]; omega
            · gi_wp2
              refine bodyPost_ret (results_none rfl _ _ _) rfl ?_
              exact ⟨⟨_, rfl⟩, .inr ⟨pre ++ [(x, T)], ⟨rns (c.drop k), by rw [hP.out, HTR.out, HKK.out]; simp⟩, hJx3⟩⟩
          · generalize c[i] = x at *
            go_wp2_with fail
            refine wp_region_ord (fun w' => w'.cell? ⟨V, 0, none⟩ = some (.slice (some ⟨b, o, none⟩) c.length d)) [(0, 0), (1, 1), (0, 2), (0, 3), (0, 4), (1, 5), (0, 6), (0, 7), (1, 8), (1, 9), (0, 10), (0, 11), (1, 12), (0, 13), (0, 14)] (by kernel_rfl) (by kernel_rfl) ?_
            go_wp2_with (first
              | (refine ord_pure rfl rfl rfl (fun K hK => ?_); go_big_quiet_op; refine hK _ ?_; clear hK K)
                                                                | (refine ord_skip rfl rfl ?_; simp only [Act.put, List.setIfInBounds_toArray, List.set_cons_zero, List.set_cons_succ])
                                                                | (refine ord_held rfl rfl rfl (cV') (fun K hK => ?_); apply Exists.intro; refine ⟨fun w' hs => ?_, hK _ ?_⟩; (revert hs; dsimp only; (try simp only [and_imp]); intros; go_simp; rfl); clear hK K)
                                                                | (refine ord_keep rfl rfl (cV') (fun K hK => ?_))
                                                                | (refine ord_drop rfl rfl (fun K hK => ?_))
                                                                | (refine ord_nil ?_))
            have x5 : wr.drew.cell? ⟨b, o + i, none⟩ = some (.int .u32 (x : Nat)) := x0'
            have v5 : wr.drew.cell? ⟨V, 0, none⟩ = some (.slice (some ⟨b, o, none⟩) c.length d) := cV'
            have hJ5 := HJS.out pre wq wr.drew hm.out.drew hJ.out
            have hK5 : KpV hi V W wr.drew := KpV.trans hKp.out (KpV.of_mod hm.out.drew (Nat.le_trans HHI.out hKp.out.size) (Nat.lt_of_lt_of_le (Array.getElem?_eq_some_iff.1 HV.out).1 hKp.out.size) (fun _ _ => id))
            have hkt : ((k : Int) - i) = (T : Int) := by have := HKK.out; omega
            clear x0' cV' x0 cV hm
            generalize wr.drew = w5 at *
            obtain ⟨fn, tmps, assign, body, hy0, hRr⟩ := HY.out pre (x, T) w5 hJ5 (by rw [hP.out, HTR.out]; simp)
            have HRr := Lib.hid hRr; have HK5 := Lib.hid hK5
            clear hRr hJ5 hK5
            have hxm : x % 4294967296 = x := Nat.mod_eq_of_lt (by omega)
            have hTm : T % 8589934592 = T := Nat.mod_eq_of_lt (by omega)
            unfold encQ at hy0
            simp only at hy0
            rw [hxm, hTm] at hy0
            gi_wp2
            refine HRr.out.mono ?_
            rintro e W3 (⟨rfl, hJ3, hk3⟩ | ⟨rfl, hJx3⟩)
            · have HK3 := Lib.hid (KpV.trans HK5.out hk3); have HJ3 := Lib.hid hJ3
              clear hk3 hJ3
              gi_wp2
              go_roundw
              case rel => exact ⟨k, pre ++ [(x, T)], rfl, hik, Lib.hid (by rw [hP.out, HTR.out, HKK.out]; simp), HJ3, HK3⟩
              case measure => have := HKK.out; simp [intOf]; omega
            · gi_wp2
              refine bodyPost_ret (results_none rfl _ _ _) rfl ?_
              exact ⟨⟨_, rfl⟩, .inr ⟨pre ++ [(x, T)], ⟨rns (c.drop k), by rw [hP.out, HTR.out, HKK.out]; simp⟩, hJx3⟩⟩
    · obtain rfl : i = c.length := by omega
      have hPE : rns c = pre := by
        have := hP.out
        rw [List.drop_length] at this
        have e2 : rns ([] : List Nat) = [] := by rw [rns]
        rw [this, e2, List.append_nil]
      have HPE := Lib.hid hPE
      clear hPE
      gi_wp2
      go_end0
      exact ⟨⟨_, rfl⟩, .inl ⟨pre, HPE.out.symm, hJ.out⟩⟩
theorem runs_stops (n V hi : Nat) (c : List Nat) (a : Option Addr) (d : Nat) (w : World) (hn : c.length ≤ 65536) (hu : U32 c) (hV : w.heap[V]? = some (.cells #[.slice a c.length d] 68 (0, 0))) (hhi : hi ≤ w.heap.size) (hR : Rd w a (u32s c)) (hab : ∀ b, blk a = some b → b < hi) :
    SeqStopsK Fence.wide n Tryz.prog 116 #[.pointer (some ⟨V, 0, none⟩)] encQ (KpV hi V) (fun ys => ys = rns c) (fun pre => pre <+: rns c) (rns c).length w := by
  intro l J Jx W hW hJ hJx hY h0
  have hM : Mod (fun _ => False) w W := Mod.ofBelow hW
  refine runs1_in n l V hi c a d J Jx W hn hu (fun pre W1 W2 m hj => ?_) hY (hM.at hV id) (Nat.le_trans hhi hM.size) (hR.mod hM (fun _ _ => id)) hab h0
  exact hJ pre W1 W2 none hj m.grownBy (fun r e => by cases e)
end Go.Proofs.YtelfakglaghfoaaGreat
