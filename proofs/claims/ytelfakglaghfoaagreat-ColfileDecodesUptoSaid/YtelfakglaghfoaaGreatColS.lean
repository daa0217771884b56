/-
  The program's runs: how long, laid: walked.
-/
import Derived.Test.YtelfakglaghfoaaGreatColQ
namespace Go.Proofs.YtelfakglaghfoaaGreat
open Go Go.RowKit Go.Mine
set_option linter.unusedVariables false
set_option maxHeartbeats 8000000
set_option maxRecDepth 100000
attribute [local go_sem] Oper.semAt_some
@[local go_sem, local simp] theorem wide_fnS (f : FuncId) : Fence.wide.fn f = True := rfl
@[local go_sem, local simp] theorem wide_depthS : Fence.wide.depth = none := rfl

def layRp (l : List (Nat × Nat)) : List UInt8 := l.flatMap fun p => lebl p.1 ++ lebl p.2
theorem layRp_snoc (l : List (Nat × Nat)) (x : Nat × Nat) : layRp (l ++ [x]) = layRp l ++ (lebl x.1 ++ lebl x.2) := by unfold layRp; rw [List.flatMap_append, List.flatMap_singleton]
def nx (x : Nat × Nat) : Nat × Nat := (x.1 % 4294967296, x.2 % 8589934592)
theorem nx_rns {l : List (Nat × Nat)} (h : ∀ p ∈ l, p.1 < 2 ^ 32 ∧ p.2 < 2 ^ 33) : l.map nx = l := by
  refine (List.map_congr_left fun p hp => ?_).trans (List.map_id l)
  obtain ⟨h1, h2⟩ := h p hp
  unfold nx
  rw [Nat.mod_eq_of_lt (by omega), Nat.mod_eq_of_lt (by omega)]
  rfl
theorem nx_ok (l : List (Nat × Nat)) : ∀ p ∈ l.map nx, p.1 < 2 ^ 32 ∧ p.2 < 2 ^ 33 := fun p hp => by
  obtain ⟨q, _, rfl⟩ := List.mem_map.1 hp
  exact ⟨Nat.mod_lt _ (by omega), Nat.mod_lt _ (by omega)⟩
/-- what a round of the size of runs finds -/
def SzI (w : World) (B N : Nat) (pre : List (Nat × Nat)) (W : World) : Prop := Boxed W B 3 (.int .i64 ((layRp (pre.map nx)).length : Nat)) ∧ Mod (fun _ => False) w W ∧ N ≤ W.heap.size
theorem szI_own (w : World) (B N C : Nat) (hB : w.heap.size ≤ C) : OwnFrom C (SzI w B N) := by
  rintro pre W W' row ⟨h1, h4, h5⟩ hg hr
  have hr2 := fun r e => (hr r e).2
  exact ⟨bx_turned h1 hg hr2, Mod.turned h4 hg (fun r e => Nat.le_trans hB (hr r e).1), Nat.le_trans h5 hg.size⟩
theorem layRp_len : ∀ l : List (Nat × Nat), (∀ p ∈ l, p.1 < 2 ^ 32 ∧ p.2 < 2 ^ 33) → (layRp l).length ≤ 20 * l.length
  | [], _ => by simp [layRp]
  | x :: r, h => by
    obtain ⟨h1, h2⟩ := h x (by simp)
    have g1 := lebl_len64 x.1 (by omega)
    have g2 := lebl_len64 x.2 (by omega)
    have ih := layRp_len r (fun p hp => h p (by simp [hp]))
    unfold layRp at ih ⊢
    simp only [List.flatMap_cons, List.length_append, List.length_cons]
    omega
theorem rns_len : ∀ (m : Nat) (c : List Nat), c.length ≤ m → (rns c).length ≤ c.length
  | m, [], _ => by rw [rns]; simp
  | 0, x :: r, h => by simp at h
  | m + 1, x :: r, h => by
    rw [rns]
    have ih := rns_len m (r.drop (r.takeWhile (· == x)).length) (by simp only [List.length_drop, List.length_cons] at h ⊢; omega)
    simp only [List.length_drop, List.length_cons] at ih ⊢
    omega
theorem size3_any (a : Option Addr) (d : Nat) (c : List Nat) (w : World) (hr : Rd w a (u32s c)) (hu : U32 c) (hn : c.length ≤ 65536) (hab : ∀ b, blk a = some b → b < w.heap.size) :
    Calls Tryz.prog 95 #[.slice a c.length d] w fun e w' => e = .returned (.int .i64 ((layR c).length : Nat)) ∧ Mod (fun _ => False) w w' := by
  refine (callsIn_wide (n := 3)).1 ?_
  refine callsIn_of_wp_marks Tryz.func95 rfl trivial ?_ rfl
  simp only [Tryz.ntmps95, List.size_toArray, List.length_cons, List.length_nil, Nat.reduceAdd, Nat.reduceSub, Array.replicate_succ, Array.replicate_zero, List.push_toArray, List.append_toArray, List.nil_append, List.cons_append]
  have HR := Lib.hid hr; have HU := Lib.hid hu; have HAB := Lib.hid hab
  clear hr hu hab
  gi_wp2_with fail
  have m1 : Mod (fun _ => False) w (w.alloc (.cells #[.int .i64 0] 3)) := (Mod.refl _ w).alloc _
  have b1 : Boxed (w.alloc (.cells #[.int .i64 0] 3)) w.heap.size 3 (.int .i64 0) := Boxed.new _ _ _
  have z1 : (w.alloc (.cells #[.int .i64 0] 3)).heap.size = w.heap.size + 1 := by simp
  obtain ⟨w1, hw1⟩ : ∃ v, v = w.alloc (.cells #[.int .i64 0] 3) := ⟨_, rfl⟩
  rw [← hw1] at m1 b1 z1 ⊢
  clear hw1
  refine (callsIn_wide.2 (runs_any a c.length d w1)).mono ?_
  rintro e w2 ⟨rfl, hw2⟩
  have m2 : Mod (fun _ => False) w1 w2 := by rw [hw2]; exact (Mod.refl _ w1).alloc _
  have hV : w2.heap[w1.heap.size]? = some (.cells #[.slice a c.length d] 68 (0, 0)) := by rw [hw2]; exact heap_alloc_new w1 _
  have z2 : w2.heap.size = w1.heap.size + 1 := by rw [hw2]; simp
  have HB := Lib.hid (bx_mod b1 m2 id); have HM := Lib.hid (m1.trans m2); have HZ1 := Lib.hid z1; have HZ2 := Lib.hid z2
  clear hw2 m1 b1 m2 z1 z2
  have hSeq := runs_stops 2 w1.heap.size w.heap.size c a d w2 hn HU.out hV (by have := HZ1.out; have := HZ2.out; omega) (HR.out.mod HM.out (fun _ _ => id)) HAB.out
  have hKb := KpV.putObj (w := w2) (hi := w.heap.size) (V := w1.heap.size) (by have := HZ1.out; have := HZ2.out; omega) (by have := HZ2.out; omega)
  have HRL : Hid (layR c = layRp (rns c)) := Lib.hid rfl
  have HRN := Lib.hid (rns_len _ c (Nat.le_refl _))
  have HRB := Lib.hid (rns_lt _ c (Nat.le_refl _) HU.out (by omega))
  generalize w1.heap.size = V at *
  clear hV
  gi_wp2_with fail
  refine wpIn_rangeFunc_ownG rfl (by omega) (gf := 116) (lb := #[.pointer (some ⟨V, 0, none⟩)]) rfl trivial (enters_of Tryz.func116 (by kernel_rfl) rfl)
    hSeq (fun h k => KpV.trans h k) hKb (Below.refl _ _) (fun _ => rfl) (SzI w w.heap.size w2.heap.size) (fun _ _ _ => False) (szI_own w w.heap.size w2.heap.size w2.heap.size (by have := HZ1.out; have := HZ2.out; omega)) (fun c => by rintro pre W W' row h; exact h.elim) ⟨HB.out, HM.out, Nat.le_refl _⟩
    (fun x => { tmps := #[.slice a c.length d, undef, .int .i64 0, .pointer (some ⟨w.heap.size, 0, none⟩), .int .u32 (x.1 % 4294967296 : Nat), .int .i64 (x.2 % 8589934592 : Nat), .slice a c.length d, .func (.func 116) #[] #[.pointer (some ⟨V, 0, none⟩)], .int .u32 (x.1 % 4294967296 : Nat), .int .i64 (x.2 % 8589934592 : Nat), undef, undef, undef, undef, undef, undef, undef, undef, undef, undef], defers := [] })
    ?assign ?body ?done ?stop
  case assign =>
    rintro l1 x W K hK
    simp only [encQ]
    gi_wp2
    exact hK
  case body =>
    rintro l1 pre x W ⟨h1, h4, h5⟩ hlt
    have HX : Hid (layRp ((pre ++ [x]).map nx) = layRp (pre.map nx) ++ (lebl (x.1 % 4294967296) ++ lebl (x.2 % 8589934592))) := Lib.hid (by rw [List.map_append]; exact layRp_snoc _ _)
    have hx1 : x.1 % 4294967296 < 4294967296 := Nat.mod_lt _ (by omega)
    have hx2 : x.2 % 8589934592 < 8589934592 := Nat.mod_lt _ (by omega)
    have hll : (layRp (pre.map nx)).length ≤ 20 * 65536 := by
      have g1 := layRp_len (pre.map nx) (nx_ok pre)
      have g2 := HRN.out
      rw [List.length_map] at g1
      omega
    generalize layRp (pre.map nx) = lp at *
    generalize x.1 % 4294967296 = y1 at *
    generalize x.2 % 8589934592 = y2 at *
    have d1 := h1.cell; have f1 := h1.frozen
    have H1 := Lib.hid h1; have H4 := Lib.hid h4; have H5 := Lib.hid h5
    have g1 := lebl_len64 y1 (by omega); have g2 := lebl_len64 y2 (by omega)
    have S1 := Lib.hid (fun W => size_any y1 (by omega) W); have S2 := Lib.hid (fun W => size_any y2 (by omega) W)
    have HLX : Hid ((layRp ((pre ++ [x]).map nx)).length = lp.length + ((lebl y1).length + (lebl y2).length)) := Lib.hid (by rw [HX.out]; simp)
    clear h1 h4 h5 hSeq hKb HX
    generalize (lebl y1).length = s1 at *
    generalize (lebl y2).length = s2 at *
    generalize hlp : lp.length = s0 at *
    gi_wp2_with fail
    refine wpIn_region_ord (fun w' => w'.cell? ⟨w.heap.size, 0, none⟩ = some (.int .i64 (s0 : Nat))) [(1, 0), (0, 1), (0, 2), (0, 4), (0, 5), (2, 3), (2, 6), (0, 7), (0, 8), (3, 9)] (by kernel_rfl) (by kernel_rfl) (by kernel_rfl) ?_
    go_wp2_with (first
      | (refine ord_pure rfl rfl rfl (fun K hK => ?_); go_big_quiet_op; refine hK _ ?_; clear hK K)
                                                                | (refine ord_skip rfl rfl ?_; simp only [Act.put, List.setIfInBounds_toArray, List.set_cons_zero, List.set_cons_succ])
                                                                | (refine ord_held rfl rfl rfl (d1) (fun K hK => ?_); apply Exists.intro; refine ⟨fun w' hs => ?_, hK _ ?_⟩; (revert hs; dsimp only; (try simp only [and_imp]); intros; go_simp; rfl); clear hK K)
                                                                | (refine ord_keep rfl rfl (d1) (fun K hK => ?_))
                                                                | (refine ord_drop rfl rfl (fun K hK => ?_))
                                                                | (refine ord_nil ?_))
    refine (S1.out _).mono ?_
    rintro e w' ⟨rfl, hw⟩
    obtain rfl : W.drew = w' := hw
    refine hK _ _ d1 ?_
    clear hK K
    go_wp2_with (first
      | (refine ord_pure rfl rfl rfl (fun K hK => ?_); go_big_quiet_op; refine hK _ ?_; clear hK K)
                                                                | (refine ord_skip rfl rfl ?_; simp only [Act.put, List.setIfInBounds_toArray, List.set_cons_zero, List.set_cons_succ])
                                                                | (refine ord_held rfl rfl rfl (d1) (fun K hK => ?_); apply Exists.intro; refine ⟨fun w' hs => ?_, hK _ ?_⟩; (revert hs; dsimp only; (try simp only [and_imp]); intros; go_simp; rfl); clear hK K)
                                                                | (refine ord_keep rfl rfl (d1) (fun K hK => ?_))
                                                                | (refine ord_drop rfl rfl (fun K hK => ?_))
                                                                | (refine ord_nil ?_))
    refine (S2.out _).mono ?_
    rintro e w' ⟨rfl, hw⟩
    obtain rfl : W.drew = w' := hw
    refine hK _ _ d1 ?_
    clear hK K
    go_wp2_with (first
      | (refine ord_pure rfl rfl rfl (fun K hK => ?_); go_big_quiet_op; refine hK _ ?_; clear hK K)
                                                                | (refine ord_skip rfl rfl ?_; simp only [Act.put, List.setIfInBounds_toArray, List.set_cons_zero, List.set_cons_succ])
                                                                | (refine ord_held rfl rfl rfl (d1) (fun K hK => ?_); apply Exists.intro; refine ⟨fun w' hs => ?_, hK _ ?_⟩; (revert hs; dsimp only; (try simp only [and_imp]); intros; go_simp; rfl); clear hK K)
                                                                | (refine ord_keep rfl rfl (d1) (fun K hK => ?_))
                                                                | (refine ord_drop rfl rfl (fun K hK => ?_))
                                                                | (refine ord_nil ?_))
    have hM : Mod (fun k => k = w.heap.size) W (W.setCell ⟨w.heap.size, 0, none⟩ (.int .i64 ((s0 : Int) + ((s1 : Int) + (s2 : Int))))).drew := ((Mod.refl (fun k => k = w.heap.size) W).setCell (p := ⟨w.heap.size, 0, none⟩) (fun _ => rfl) _).drew
    have hbx := bx_put H1.out (.int .i64 ((s0 : Int) + ((s1 : Int) + (s2 : Int))))
    have q1 := HZ1.out; have q2 := HZ2.out; have q5 := H5.out
    refine ⟨keepsFrom_mod hM ?_, KpV.of_mod hM H4.out.size (by omega) ?_, ?_, H4.out.step hM (fun i hi e => by omega), Nat.le_trans q5 hM.size⟩
    · rintro k rfl o ho
      have := H1.out
      unfold Boxed at this
      rw [this] at ho; cases ho; rfl
    · rintro k (hk | hk) e <;> omega
    · have e : (((layRp ((pre ++ [x]).map nx)).length : Nat) : Int) = (s0 : Int) + ((s1 : Int) + (s2 : Int)) := by rw [HLX.out]; push_cast; rfl
      rw [e]
      exact hbx
  case done =>
    rintro D ys W hD he ⟨h1, h4, h5⟩ hK
    have he2 : ys = rns c := he
    subst he2
    have d1 := h1.cell
    have H4 := Lib.hid h4
    have HK := Lib.hid hK; have HD := Lib.hid hD
    have HLL : Hid (layRp ((rns c).map nx) = layR c) := Lib.hid (by rw [nx_rns HRB.out, HRL.out])
    rw [HLL.out] at d1
    clear h1 h4 h5 hK hKb hSeq hD
    gi_wp2
    have hG := Mod.ofGrown (grownBy_putObj' W D (.deferred none))
    have hD := HD.out; have hZ := HZ2.out
    refine ⟨by simp, .inl ⟨_, _, rfl, run_takeDeferred HK.out, ?_⟩⟩
    refine ⟨.int .i64 ((layR c).length : Nat), by simp [results, Tryz.f95, go_sem], rfl, H4.out.step hG (fun i hi e => by cases e; have := HM.out.size; omega)⟩
  case stop =>
    rintro D cc pre W hD hpre h
    exact h.elim
end Go.Proofs.YtelfakglaghfoaaGreat
