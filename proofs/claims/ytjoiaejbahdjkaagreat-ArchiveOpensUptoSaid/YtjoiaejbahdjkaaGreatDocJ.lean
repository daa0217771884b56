/-
  The document's Read: walked.
-/
import Derived.Test.YtjoiaejbahdjkaaGreatDocI
namespace Go.Proofs.YtjoiaejbahdjkaaGreat
open Go Go.RowKit Go.Mine
set_option linter.unusedVariables false
set_option maxHeartbeats 8000000
set_option maxRecDepth 100000
theorem ba_list (x : List UInt8) : (⟨x.toArray⟩ : ByteArray).data.toList = x := by simp
theorem not_big {l : List UInt8} {F : Fil} (h : headF l = 0) (hP : Parse (midL l) F) (hF : Fine (midL l) F) : ¬ (16777216 < sumL (textsL (riseG belowL (rowsF F.ts F.cs F.n))) ∨ 16777216 < 14 + (bodyL F.nm F.A (rowsF F.ts F.cs F.n)).length) := by
 obtain ⟨e1, e2, e3, e4⟩ := fine_of hP hF
 have H := head_ok h
 have h1 := H.le
 have h2 := H.ge
 rw [e4, e1, e2, mid_len]
 have h3 := sumL_le F.ts
 have h4 := hP.facts.dle
 have h5 := hP.facts.d
 rw [mid_len] at h4
 unfold pgBytes at h5
 rw [List.length_append] at h5
 omega
theorem rel_ok {m : List UInt8} {F : Fil} {w0 w : World} {ra : Option Addr} {rc : Nat} {hs : List Value} {G : Nat → Prop} (hP : Parse m F) (hB : Bounds F.ts.length F.cs) (h : LL G w0 w 81 ra rc hs ((rowsF F.ts F.cs F.n).map sts)) : RelI w ⟨F.nm.toArray⟩ F.A ra rc hs (rowsF F.ts F.cs F.n) := by
 have K := hP.facts
 refine ⟨h.rd, fun r hr => ?_, hP.arl, by rw [ba_size]; exact K.nml, fun r hr s hs => ?_, by rw [rowsF_length]; exact hP.nrl, ?_⟩
 ·obtain ⟨i, _, rfl⟩ := List.mem_map.1 hr
  rw [rowF_len, K.len]
 ·have hm := (mem_rows hB (fun c hc => (K.col c hc).2) s).1 (List.mem_flatten.2 ⟨r, hr, hs⟩)
  obtain ⟨j, hj, _, rfl⟩ := hm
  exact K.sz _ (List.getElem_mem hj)
 ·have h1 := h.own
  rw [List.length_map] at h1
  rcases h1.2 with ⟨_, h2, h3⟩ | ⟨_, _, _, _, h2, _⟩
  ·omega
  ·exact h2
theorem refRead7_any (a : Option Addr) (c : Nat) (l : List UInt8) (w : World) (hr : Rd w a (bts l)) (hc : l.length ≤ c) (hl : l.length < 2 ^ 40) :
 Calls Tryz.prog 79 #[.slice a l.length c] w (GPost l w) := by
 have HR := Hi hr
 clear hr
 have HS0 : Hid (RS w ((w.alloc (.cells #[.string ⟨#[]⟩, .int .i64 0, .slice none 0 0] 86)).alloc (.cells #[.string ⟨#[]⟩, .int .i64 0, .int .i64 0, .int .i64 0, .int .i64 0, .slice none 0 0] 120)) [boxI w.heap.size #[.string ⟨#[]⟩, .int .i64 0, .slice none 0 0] 86, boxI (w.heap.size + 1) #[.string ⟨#[]⟩, .int .i64 0, .int .i64 0, .int .i64 0, .int .i64 0, .slice none 0 0] 120]) := Hi (by
  have h0 : RS w w [] := ⟨Fam.nil (Nat.le_refl _), Mod.refl _ _⟩
  have h1 := h0.push (i' := boxI w.heap.size #[.string ⟨#[]⟩, .int .i64 0, .slice none 0 0] 86) ((Mod.refl _ w).alloc (.cells #[.string ⟨#[]⟩, .int .i64 0, .slice none 0 0] 86)) (heap_alloc_new w _) (fun b hb => Nat.le_of_eq (Eq.symm hb))
  have e1 : (w.alloc (.cells #[.string ⟨#[]⟩, .int .i64 0, .slice none 0 0] 86)).heap.size = w.heap.size + 1 := by simp
  exact h1.push (i' := boxI (w.heap.size + 1) #[.string ⟨#[]⟩, .int .i64 0, .int .i64 0, .int .i64 0, .int .i64 0, .slice none 0 0] 120) ((Mod.refl _ _).alloc (.cells #[.string ⟨#[]⟩, .int .i64 0, .int .i64 0, .int .i64 0, .int .i64 0, .slice none 0 0] 120)) (by have h := heap_alloc_new (w.alloc (.cells #[.string ⟨#[]⟩, .int .i64 0, .slice none 0 0] 86)) (.cells #[.string ⟨#[]⟩, .int .i64 0, .int .i64 0, .int .i64 0, .int .i64 0, .slice none 0 0] 120); rw [e1] at h; exact h) (fun b hb => Nat.le_of_eq (by rw [e1]; exact Eq.symm hb)))
 go_enter Tryz.func79, Tryz.ntmps79
 obtain ⟨B, hB⟩ : ∃ B, B = w.heap.size := ⟨_, rfl⟩
 go_upto_region 1 with fail
 rw [← hB] at HS0 ⊢
 have HB := Hi hB
 clear hB
 generalize (w.alloc (.cells #[.string ⟨#[]⟩, .int .i64 0, .slice none 0 0] 86)).alloc (.cells #[.string ⟨#[]⟩, .int .i64 0, .int .i64 0, .int .i64 0, .int .i64 0, .slice none 0 0] 120) = w1 at *
 have h0 : w1.heap[B]? = some (.cells #[.string ⟨#[]⟩, .int .i64 0, .slice none 0 0] 86 (0, 0)) := HS0.out.get (k := 0) (by simp)
 have h1 : w1.heap[B + 1]? = some (.cells #[.string ⟨#[]⟩, .int .i64 0, .int .i64 0, .int .i64 0, .int .i64 0, .slice none 0 0] 120 (0, 0)) := HS0.out.get (k := 1) (by simp)
 have pc0 := cell_at (j := 0) h0 rfl; have pf0 := frozen_at (j := 0) h0; have pc1 := cell_at (j := 1) h0 rfl; have pf1 := frozen_at (j := 1) h0; have pc2 := cell_at (j := 2) h0 rfl; have pf2 := frozen_at (j := 2) h0
 have qc0 := cell_at (j := 0) h1 rfl; have qf0 := frozen_at (j := 0) h1; have qc1 := cell_at (j := 1) h1 rfl; have qf1 := frozen_at (j := 1) h1; have qc2 := cell_at (j := 2) h1 rfl; have qf2 := frozen_at (j := 2) h1; have qc3 := cell_at (j := 3) h1 rfl; have qf3 := frozen_at (j := 3) h1; have qc4 := cell_at (j := 4) h1 rfl; have qf4 := frozen_at (j := 4) h1; have qc5 := cell_at (j := 5) h1 rfl; have qf5 := frozen_at (j := 5) h1
 clear h0 h1
 by_cases h16 : 16777216 < l.length
 ·have HH : Hid (headF l = 3) := Hi (by unfold headF; rw [if_pos h16])
  go_wp2_with fail
  have HSZ : Hid (RS w ((((((((((w1).setCell ⟨B, 0, none⟩ (.string ⟨#[]⟩)).setCell ⟨B, 1, none⟩ (.int .i64 0)).setCell ⟨B, 2, none⟩ (.slice none 0 0)).setCell ⟨B + 1, 0, none⟩ (.string ⟨#[]⟩)).setCell ⟨B + 1, 1, none⟩ (.int .i64 0)).setCell ⟨B + 1, 2, none⟩ (.int .i64 0)).setCell ⟨B + 1, 3, none⟩ (.int .i64 0)).setCell ⟨B + 1, 4, none⟩ (.int .i64 0)).setCell ⟨B + 1, 5, none⟩ (.slice none 0 0)) [boxI B #[.string ⟨#[]⟩, .int .i64 0, .slice none 0 0] 86, boxI (B + 1) #[.string ⟨#[]⟩, .int .i64 0, .int .i64 0, .int .i64 0, .int .i64 0, .slice none 0 0] 120]) := Hi (RS.cell (RS.cell (RS.cell (RS.cell (RS.cell (RS.cell (RS.cell (RS.cell (RS.cell HS0.out (k := 0) (by simp) rfl 0 (.string ⟨#[]⟩)) (k := 0) (by simp) rfl 1 (.int .i64 0)) (k := 0) (by simp) rfl 2 (.slice none 0 0)) (k := 1) (by simp) rfl 0 (.string ⟨#[]⟩)) (k := 1) (by simp) rfl 1 (.int .i64 0)) (k := 1) (by simp) rfl 2 (.int .i64 0)) (k := 1) (by simp) rfl 3 (.int .i64 0)) (k := 1) (by simp) rfl 4 (.int .i64 0)) (k := 1) (by simp) rfl 5 (.slice none 0 0))
  clear pc0 pf0 pc1 pf1 pc2 pf2 qc0 qf0 qc1 qf1 qc2 qf2 qc3 qf3 qc4 qf4 qc5 qf5
  generalize (((((((((w1).setCell ⟨B, 0, none⟩ (.string ⟨#[]⟩)).setCell ⟨B, 1, none⟩ (.int .i64 0)).setCell ⟨B, 2, none⟩ (.slice none 0 0)).setCell ⟨B + 1, 0, none⟩ (.string ⟨#[]⟩)).setCell ⟨B + 1, 1, none⟩ (.int .i64 0)).setCell ⟨B + 1, 2, none⟩ (.int .i64 0)).setCell ⟨B + 1, 3, none⟩ (.int .i64 0)).setCell ⟨B + 1, 4, none⟩ (.int .i64 0)).setCell ⟨B + 1, 5, none⟩ (.slice none 0 0) = wz at *
  have h0 : wz.heap[B]? = some (.cells #[.string ⟨#[]⟩, .int .i64 0, .slice none 0 0] 86 (0, 0)) := HSZ.out.get (k := 0) (by simp)
  have h1 : wz.heap[B + 1]? = some (.cells #[.string ⟨#[]⟩, .int .i64 0, .int .i64 0, .int .i64 0, .int .i64 0, .slice none 0 0] 120 (0, 0)) := HSZ.out.get (k := 1) (by simp)
  have pc0 := cell_at (j := 0) h0 rfl; have pf0 := frozen_at (j := 0) h0; have pc1 := cell_at (j := 1) h0 rfl; have pf1 := frozen_at (j := 1) h0; have pc2 := cell_at (j := 2) h0 rfl; have pf2 := frozen_at (j := 2) h0
  have qc0 := cell_at (j := 0) h1 rfl; have qf0 := frozen_at (j := 0) h1; have qc1 := cell_at (j := 1) h1 rfl; have qf1 := frozen_at (j := 1) h1; have qc2 := cell_at (j := 2) h1 rfl; have qf2 := frozen_at (j := 2) h1; have qc3 := cell_at (j := 3) h1 rfl; have qf3 := frozen_at (j := 3) h1; have qc4 := cell_at (j := 4) h1 rfl; have qf4 := frozen_at (j := 4) h1; have qc5 := cell_at (j := 5) h1 rfl; have qf5 := frozen_at (j := 5) h1
  have hlast : GPost l w (.returned (.tuple #[.agg #[.string ⟨#[]⟩, .int .i64 0, .slice none 0 0], .agg #[.string ⟨#[]⟩, .int .i64 0, .int .i64 0, .int .i64 0, .int .i64 0, .slice none 0 0], .int .i64 3])) wz := ⟨.inl ⟨3, .inl ⟨by rw [HH.out]; omega, HH.out.symm⟩, rfl⟩, HSZ.out.md⟩
  refine bodyPost_ret (v := .tuple #[.agg #[.string ⟨#[]⟩, .int .i64 0, .slice none 0 0], .agg #[.string ⟨#[]⟩, .int .i64 0, .int .i64 0, .int .i64 0, .int .i64 0, .slice none 0 0], .int .i64 3]) ?_ rfl hlast
  clear hlast
  simp [results, Tryz.results79, go_sem, pc0, pc1, pc2, qc0, qc1, qc2, qc3, qc4, qc5]
 by_cases h14 : l.length < 14
 ·have HH : Hid (headF l = 70) := Hi (by unfold headF; rw [if_neg h16, if_pos (.inl h14)])
  go_wp2_with fail
  have HSZ : Hid (RS w ((((((((((w1).setCell ⟨B, 0, none⟩ (.string ⟨#[]⟩)).setCell ⟨B, 1, none⟩ (.int .i64 0)).setCell ⟨B, 2, none⟩ (.slice none 0 0)).setCell ⟨B + 1, 0, none⟩ (.string ⟨#[]⟩)).setCell ⟨B + 1, 1, none⟩ (.int .i64 0)).setCell ⟨B + 1, 2, none⟩ (.int .i64 0)).setCell ⟨B + 1, 3, none⟩ (.int .i64 0)).setCell ⟨B + 1, 4, none⟩ (.int .i64 0)).setCell ⟨B + 1, 5, none⟩ (.slice none 0 0)) [boxI B #[.string ⟨#[]⟩, .int .i64 0, .slice none 0 0] 86, boxI (B + 1) #[.string ⟨#[]⟩, .int .i64 0, .int .i64 0, .int .i64 0, .int .i64 0, .slice none 0 0] 120]) := Hi (RS.cell (RS.cell (RS.cell (RS.cell (RS.cell (RS.cell (RS.cell (RS.cell (RS.cell HS0.out (k := 0) (by simp) rfl 0 (.string ⟨#[]⟩)) (k := 0) (by simp) rfl 1 (.int .i64 0)) (k := 0) (by simp) rfl 2 (.slice none 0 0)) (k := 1) (by simp) rfl 0 (.string ⟨#[]⟩)) (k := 1) (by simp) rfl 1 (.int .i64 0)) (k := 1) (by simp) rfl 2 (.int .i64 0)) (k := 1) (by simp) rfl 3 (.int .i64 0)) (k := 1) (by simp) rfl 4 (.int .i64 0)) (k := 1) (by simp) rfl 5 (.slice none 0 0))
  clear pc0 pf0 pc1 pf1 pc2 pf2 qc0 qf0 qc1 qf1 qc2 qf2 qc3 qf3 qc4 qf4 qc5 qf5
  generalize (((((((((w1).setCell ⟨B, 0, none⟩ (.string ⟨#[]⟩)).setCell ⟨B, 1, none⟩ (.int .i64 0)).setCell ⟨B, 2, none⟩ (.slice none 0 0)).setCell ⟨B + 1, 0, none⟩ (.string ⟨#[]⟩)).setCell ⟨B + 1, 1, none⟩ (.int .i64 0)).setCell ⟨B + 1, 2, none⟩ (.int .i64 0)).setCell ⟨B + 1, 3, none⟩ (.int .i64 0)).setCell ⟨B + 1, 4, none⟩ (.int .i64 0)).setCell ⟨B + 1, 5, none⟩ (.slice none 0 0) = wz at *
  have h0 : wz.heap[B]? = some (.cells #[.string ⟨#[]⟩, .int .i64 0, .slice none 0 0] 86 (0, 0)) := HSZ.out.get (k := 0) (by simp)
  have h1 : wz.heap[B + 1]? = some (.cells #[.string ⟨#[]⟩, .int .i64 0, .int .i64 0, .int .i64 0, .int .i64 0, .slice none 0 0] 120 (0, 0)) := HSZ.out.get (k := 1) (by simp)
  have pc0 := cell_at (j := 0) h0 rfl; have pf0 := frozen_at (j := 0) h0; have pc1 := cell_at (j := 1) h0 rfl; have pf1 := frozen_at (j := 1) h0; have pc2 := cell_at (j := 2) h0 rfl; have pf2 := frozen_at (j := 2) h0
  have qc0 := cell_at (j := 0) h1 rfl; have qf0 := frozen_at (j := 0) h1; have qc1 := cell_at (j := 1) h1 rfl; have qf1 := frozen_at (j := 1) h1; have qc2 := cell_at (j := 2) h1 rfl; have qf2 := frozen_at (j := 2) h1; have qc3 := cell_at (j := 3) h1 rfl; have qf3 := frozen_at (j := 3) h1; have qc4 := cell_at (j := 4) h1 rfl; have qf4 := frozen_at (j := 4) h1; have qc5 := cell_at (j := 5) h1 rfl; have qf5 := frozen_at (j := 5) h1
  have hlast : GPost l w (.returned (.tuple #[.agg #[.string ⟨#[]⟩, .int .i64 0, .slice none 0 0], .agg #[.string ⟨#[]⟩, .int .i64 0, .int .i64 0, .int .i64 0, .int .i64 0, .slice none 0 0], .int .i64 70])) wz := ⟨.inl ⟨70, .inl ⟨by rw [HH.out]; omega, HH.out.symm⟩, rfl⟩, HSZ.out.md⟩
  refine bodyPost_ret (v := .tuple #[.agg #[.string ⟨#[]⟩, .int .i64 0, .slice none 0 0], .agg #[.string ⟨#[]⟩, .int .i64 0, .int .i64 0, .int .i64 0, .int .i64 0, .slice none 0 0], .int .i64 70]) ?_ rfl hlast
  clear hlast
  simp [results, Tryz.results79, go_sem, pc0, pc1, pc2, qc0, qc1, qc2, qc3, qc4, qc5]
 obtain ⟨bb, bo, rfl, _⟩ := byte_cell HR.out (i := 0) (by omega)
 have HR1 := Hi (HR.out.mod HS0.out.md fun _ _ => id)
 have hcv6 : ∀ W, Mod (fun _ => False) w1 W → (convert 23 9 (.slice (some ⟨bb, bo, none⟩) 6 c)).run Tryz.prog W = .ok (.string ⟨(l.take 6).toArray⟩) W := fun W mW => by
  have h1 := (HR1.out.mod mW fun _ _ => id).take 6
  rw [bts, ← List.map_take] at h1
  have h2 := run_bytes24 (some ⟨bb, bo, none⟩) (l.take 6) c W h1
  rwa [List.length_take, show min 6 l.length = 6 by omega] at h2
 have hcv := hcv6 w1 (Mod.refl _ _)
 by_cases hmg : l.take 6 = magicL
 rotate_left
 ·have HH : Hid (headF l = 70) := Hi (by unfold headF; rw [if_neg h16, if_pos (.inr hmg)])
  have heq : (l.take 6 == [115, 105, 98, 121, 108, 1]) = false := by simpa [magicL] using hmg
  have HMG := Hi hmg
  have hd14 : decide ((l.length : Int) < 14) = false := by simp; omega
  clear hmg hcv6
  generalize l.take 6 = l6 at *
  go_wp2_with fail
  have HSZ : Hid (RS w ((((((((((w1).setCell ⟨B, 0, none⟩ (.string ⟨#[]⟩)).setCell ⟨B, 1, none⟩ (.int .i64 0)).setCell ⟨B, 2, none⟩ (.slice none 0 0)).setCell ⟨B + 1, 0, none⟩ (.string ⟨#[]⟩)).setCell ⟨B + 1, 1, none⟩ (.int .i64 0)).setCell ⟨B + 1, 2, none⟩ (.int .i64 0)).setCell ⟨B + 1, 3, none⟩ (.int .i64 0)).setCell ⟨B + 1, 4, none⟩ (.int .i64 0)).setCell ⟨B + 1, 5, none⟩ (.slice none 0 0)) [boxI B #[.string ⟨#[]⟩, .int .i64 0, .slice none 0 0] 86, boxI (B + 1) #[.string ⟨#[]⟩, .int .i64 0, .int .i64 0, .int .i64 0, .int .i64 0, .slice none 0 0] 120]) := Hi (RS.cell (RS.cell (RS.cell (RS.cell (RS.cell (RS.cell (RS.cell (RS.cell (RS.cell HS0.out (k := 0) (by simp) rfl 0 (.string ⟨#[]⟩)) (k := 0) (by simp) rfl 1 (.int .i64 0)) (k := 0) (by simp) rfl 2 (.slice none 0 0)) (k := 1) (by simp) rfl 0 (.string ⟨#[]⟩)) (k := 1) (by simp) rfl 1 (.int .i64 0)) (k := 1) (by simp) rfl 2 (.int .i64 0)) (k := 1) (by simp) rfl 3 (.int .i64 0)) (k := 1) (by simp) rfl 4 (.int .i64 0)) (k := 1) (by simp) rfl 5 (.slice none 0 0))
  clear pc0 pf0 pc1 pf1 pc2 pf2 qc0 qf0 qc1 qf1 qc2 qf2 qc3 qf3 qc4 qf4 qc5 qf5
  generalize (((((((((w1).setCell ⟨B, 0, none⟩ (.string ⟨#[]⟩)).setCell ⟨B, 1, none⟩ (.int .i64 0)).setCell ⟨B, 2, none⟩ (.slice none 0 0)).setCell ⟨B + 1, 0, none⟩ (.string ⟨#[]⟩)).setCell ⟨B + 1, 1, none⟩ (.int .i64 0)).setCell ⟨B + 1, 2, none⟩ (.int .i64 0)).setCell ⟨B + 1, 3, none⟩ (.int .i64 0)).setCell ⟨B + 1, 4, none⟩ (.int .i64 0)).setCell ⟨B + 1, 5, none⟩ (.slice none 0 0) = wz at *
  have h0 : wz.heap[B]? = some (.cells #[.string ⟨#[]⟩, .int .i64 0, .slice none 0 0] 86 (0, 0)) := HSZ.out.get (k := 0) (by simp)
  have h1 : wz.heap[B + 1]? = some (.cells #[.string ⟨#[]⟩, .int .i64 0, .int .i64 0, .int .i64 0, .int .i64 0, .slice none 0 0] 120 (0, 0)) := HSZ.out.get (k := 1) (by simp)
  have pc0 := cell_at (j := 0) h0 rfl; have pf0 := frozen_at (j := 0) h0; have pc1 := cell_at (j := 1) h0 rfl; have pf1 := frozen_at (j := 1) h0; have pc2 := cell_at (j := 2) h0 rfl; have pf2 := frozen_at (j := 2) h0
  have qc0 := cell_at (j := 0) h1 rfl; have qf0 := frozen_at (j := 0) h1; have qc1 := cell_at (j := 1) h1 rfl; have qf1 := frozen_at (j := 1) h1; have qc2 := cell_at (j := 2) h1 rfl; have qf2 := frozen_at (j := 2) h1; have qc3 := cell_at (j := 3) h1 rfl; have qf3 := frozen_at (j := 3) h1; have qc4 := cell_at (j := 4) h1 rfl; have qf4 := frozen_at (j := 4) h1; have qc5 := cell_at (j := 5) h1 rfl; have qf5 := frozen_at (j := 5) h1
  have hlast : GPost l w (.returned (.tuple #[.agg #[.string ⟨#[]⟩, .int .i64 0, .slice none 0 0], .agg #[.string ⟨#[]⟩, .int .i64 0, .int .i64 0, .int .i64 0, .int .i64 0, .slice none 0 0], .int .i64 70])) wz := ⟨.inl ⟨70, .inl ⟨by rw [HH.out]; omega, HH.out.symm⟩, rfl⟩, HSZ.out.md⟩
  refine bodyPost_ret (v := .tuple #[.agg #[.string ⟨#[]⟩, .int .i64 0, .slice none 0 0], .agg #[.string ⟨#[]⟩, .int .i64 0, .int .i64 0, .int .i64 0, .int .i64 0, .slice none 0 0], .int .i64 70]) ?_ rfl hlast
  clear hlast
  simp [results, Tryz.results79, go_sem, pc0, pc1, pc2, qc0, qc1, qc2, qc3, qc4, qc5]
 have heq : (l.take 6 == [115, 105, 98, 121, 108, 1]) = true := by rw [hmg]; rfl
 have HMG := Hi hmg
 have hd14 : decide ((l.length : Int) < 14) = false := by simp; omega
 clear hmg hcv6
 have hcell : ∀ j, j < l.length → w1.cell? ⟨bb, bo + j, none⟩ = some (.int .u8 ((l.getD j 0).toNat : Nat)) := fun j hj => by
  obtain ⟨b2, o2, e2, h2⟩ := byte_cell HR1.out hj
  cases e2
  rw [h2, List.getD_eq_getElem?_getD, List.getElem?_eq_getElem hj]; rfl
 have k6 := hcell 6 (by omega); have k7 := hcell 7 (by omega); have k8 := hcell 8 (by omega); have k9 := hcell 9 (by omega)
 have HSF : Hid (sizeF l = (l.getD 6 0).toNat + 256 * (l.getD 7 0).toNat + 65536 * (l.getD 8 0).toNat + 16777216 * (l.getD 9 0).toNat) := Hi rfl
 have t6 := (l.getD 6 0).toNat_lt; have t7 := (l.getD 7 0).toNat_lt; have t8 := (l.getD 8 0).toNat_lt; have t9 := (l.getD 9 0).toNat_lt
 generalize (l.getD 6 0).toNat = n6 at *
 generalize (l.getD 7 0).toNat = n7 at *
 generalize (l.getD 8 0).toNat = n8 at *
 generalize (l.getD 9 0).toNat = n9 at *
 have m6 : 6 < l.length := by omega
 have m7 : 7 < l.length := by omega
 have m8 : 8 < l.length := by omega
 have m9 : 9 < l.length := by omega
 obtain ⟨l6, hl6⟩ : ∃ l6, l6 = l.take 6 := ⟨_, rfl⟩
 rw [← hl6] at heq hcv
 clear hl6 hcell
 go_wp2_with fail
 refine wp_region_ord (fun w' => w'.cell? ⟨bb, bo + 6, none⟩ = some (.int .u8 (n6 : Nat)) ∧ w'.cell? ⟨bb, bo + 7, none⟩ = some (.int .u8 (n7 : Nat)) ∧ w'.cell? ⟨bb, bo + 8, none⟩ = some (.int .u8 (n8 : Nat)) ∧ w'.cell? ⟨bb, bo + 9, none⟩ = some (.int .u8 (n9 : Nat))) [(0, 0), (0, 1), (1, 2), (0, 3), (0, 4), (0, 5), (1, 6), (0, 7), (0, 8), (0, 9), (0, 10), (0, 11), (1, 12), (0, 13), (0, 14), (0, 15), (0, 16), (0, 17), (1, 18), (0, 19), (0, 20), (0, 21), (0, 22)] (by kernel_rfl) (by kernel_rfl) ?_
 have HS1 := Hi (HS0.out.mod0 (w' := w1.drew) ((Mod.refl _ w1).drew))
 have HR2 := Hi (HR1.out.mod ((Mod.refl (fun _ => False) w1).drew) fun _ _ => id)
 have md := (Mod.refl (fun _ => False) w1).drew
 have j6 := md.cell k6 id; have j7 := md.cell k7 id; have j8 := md.cell k8 id; have j9 := md.cell k9 id
 clear md k6 k7 k8 k9 HS0 HR1 hcv heq pc0 pf0 pc1 pf1 pc2 pf2 qc0 qf0 qc1 qf1 qc2 qf2 qc3 qf3 qc4 qf4 qc5 qf5
 generalize w1.drew = w2 at *
 go_upto_region 6 with (first
  |(refine ord_pure rfl rfl rfl (fun K hK => ?_); go_big_quiet_op; refine hK _ ?_; clear hK K)
  |(refine ord_held rfl rfl rfl (⟨j6, j7, j8, j9⟩) (fun K hK => ?_); apply Exists.intro; refine ⟨fun w' hs => ?_, hK _ ?_⟩; (revert hs; dsimp only; (try simp only [and_imp]); intros; go_simp; rfl); clear hK K)
  |(refine ord_nil ?_))
 obtain ⟨sz, hsz⟩ : ∃ sz, sz = sizeF l := ⟨_, rfl⟩
 have hz : (n6 : Int) + 256 * n7 + 65536 * n8 + 16777216 * n9 = (sz : Int) := by have := HSF.out; omega
 rw [hz]
 have HSZZ := Hi hsz
 clear hz hsz j6 j7 j8 j9 HSF t6 t7 t8 t9 m6 m7 m8 m9
 have h0 : w2.heap[B]? = some (.cells #[.string ⟨#[]⟩, .int .i64 0, .slice none 0 0] 86 (0, 0)) := HS1.out.get (k := 0) (by simp)
 have h1 : w2.heap[B + 1]? = some (.cells #[.string ⟨#[]⟩, .int .i64 0, .int .i64 0, .int .i64 0, .int .i64 0, .slice none 0 0] 120 (0, 0)) := HS1.out.get (k := 1) (by simp)
 have pc0 := cell_at (j := 0) h0 rfl; have pf0 := frozen_at (j := 0) h0; have pc1 := cell_at (j := 1) h0 rfl; have pf1 := frozen_at (j := 1) h0; have pc2 := cell_at (j := 2) h0 rfl; have pf2 := frozen_at (j := 2) h0
 have qc0 := cell_at (j := 0) h1 rfl; have qf0 := frozen_at (j := 0) h1; have qc1 := cell_at (j := 1) h1 rfl; have qf1 := frozen_at (j := 1) h1; have qc2 := cell_at (j := 2) h1 rfl; have qf2 := frozen_at (j := 2) h1; have qc3 := cell_at (j := 3) h1 rfl; have qf3 := frozen_at (j := 3) h1; have qc4 := cell_at (j := 4) h1 rfl; have qf4 := frozen_at (j := 4) h1; have qc5 := cell_at (j := 5) h1 rfl; have qf5 := frozen_at (j := 5) h1
 clear h0 h1
 by_cases hsl : sz = l.length
 rotate_left
 ·have HH : Hid (headF l = 70) := Hi (by unfold headF; rw [if_neg h16, if_neg (by rintro (h | h); exact h14 h; exact h HMG.out), if_pos (by rw [← HSZZ.out]; exact hsl)])
  have hq : ((sz : Int) == (l.length : Int)) = false := by simp; omega
  have HSL := Hi hsl
  clear hsl
  go_wp2_with fail
  have HSZ : Hid (RS w ((((((((((w2).setCell ⟨B, 0, none⟩ (.string ⟨#[]⟩)).setCell ⟨B, 1, none⟩ (.int .i64 0)).setCell ⟨B, 2, none⟩ (.slice none 0 0)).setCell ⟨B + 1, 0, none⟩ (.string ⟨#[]⟩)).setCell ⟨B + 1, 1, none⟩ (.int .i64 0)).setCell ⟨B + 1, 2, none⟩ (.int .i64 0)).setCell ⟨B + 1, 3, none⟩ (.int .i64 0)).setCell ⟨B + 1, 4, none⟩ (.int .i64 0)).setCell ⟨B + 1, 5, none⟩ (.slice none 0 0)) [boxI B #[.string ⟨#[]⟩, .int .i64 0, .slice none 0 0] 86, boxI (B + 1) #[.string ⟨#[]⟩, .int .i64 0, .int .i64 0, .int .i64 0, .int .i64 0, .slice none 0 0] 120]) := Hi (RS.cell (RS.cell (RS.cell (RS.cell (RS.cell (RS.cell (RS.cell (RS.cell (RS.cell HS1.out (k := 0) (by simp) rfl 0 (.string ⟨#[]⟩)) (k := 0) (by simp) rfl 1 (.int .i64 0)) (k := 0) (by simp) rfl 2 (.slice none 0 0)) (k := 1) (by simp) rfl 0 (.string ⟨#[]⟩)) (k := 1) (by simp) rfl 1 (.int .i64 0)) (k := 1) (by simp) rfl 2 (.int .i64 0)) (k := 1) (by simp) rfl 3 (.int .i64 0)) (k := 1) (by simp) rfl 4 (.int .i64 0)) (k := 1) (by simp) rfl 5 (.slice none 0 0))
  clear pc0 pf0 pc1 pf1 pc2 pf2 qc0 qf0 qc1 qf1 qc2 qf2 qc3 qf3 qc4 qf4 qc5 qf5
  generalize (((((((((w2).setCell ⟨B, 0, none⟩ (.string ⟨#[]⟩)).setCell ⟨B, 1, none⟩ (.int .i64 0)).setCell ⟨B, 2, none⟩ (.slice none 0 0)).setCell ⟨B + 1, 0, none⟩ (.string ⟨#[]⟩)).setCell ⟨B + 1, 1, none⟩ (.int .i64 0)).setCell ⟨B + 1, 2, none⟩ (.int .i64 0)).setCell ⟨B + 1, 3, none⟩ (.int .i64 0)).setCell ⟨B + 1, 4, none⟩ (.int .i64 0)).setCell ⟨B + 1, 5, none⟩ (.slice none 0 0) = wz at *
  have h0 : wz.heap[B]? = some (.cells #[.string ⟨#[]⟩, .int .i64 0, .slice none 0 0] 86 (0, 0)) := HSZ.out.get (k := 0) (by simp)
  have h1 : wz.heap[B + 1]? = some (.cells #[.string ⟨#[]⟩, .int .i64 0, .int .i64 0, .int .i64 0, .int .i64 0, .slice none 0 0] 120 (0, 0)) := HSZ.out.get (k := 1) (by simp)
  have pc0 := cell_at (j := 0) h0 rfl; have pf0 := frozen_at (j := 0) h0; have pc1 := cell_at (j := 1) h0 rfl; have pf1 := frozen_at (j := 1) h0; have pc2 := cell_at (j := 2) h0 rfl; have pf2 := frozen_at (j := 2) h0
  have qc0 := cell_at (j := 0) h1 rfl; have qf0 := frozen_at (j := 0) h1; have qc1 := cell_at (j := 1) h1 rfl; have qf1 := frozen_at (j := 1) h1; have qc2 := cell_at (j := 2) h1 rfl; have qf2 := frozen_at (j := 2) h1; have qc3 := cell_at (j := 3) h1 rfl; have qf3 := frozen_at (j := 3) h1; have qc4 := cell_at (j := 4) h1 rfl; have qf4 := frozen_at (j := 4) h1; have qc5 := cell_at (j := 5) h1 rfl; have qf5 := frozen_at (j := 5) h1
  have hlast : GPost l w (.returned (.tuple #[.agg #[.string ⟨#[]⟩, .int .i64 0, .slice none 0 0], .agg #[.string ⟨#[]⟩, .int .i64 0, .int .i64 0, .int .i64 0, .int .i64 0, .slice none 0 0], .int .i64 70])) wz := ⟨.inl ⟨70, .inl ⟨by rw [HH.out]; omega, HH.out.symm⟩, rfl⟩, HSZ.out.md⟩
  refine bodyPost_ret (v := .tuple #[.agg #[.string ⟨#[]⟩, .int .i64 0, .slice none 0 0], .agg #[.string ⟨#[]⟩, .int .i64 0, .int .i64 0, .int .i64 0, .int .i64 0, .slice none 0 0], .int .i64 70]) ?_ rfl hlast
  clear hlast
  simp [results, Tryz.results79, go_sem, pc0, pc1, pc2, qc0, qc1, qc2, qc3, qc4, qc5]
 have hq : ((sz : Int) == (l.length : Int)) = true := by simp; omega
 have HSL : Hid (sizeF l = l.length) := Hi (by rw [← HSZZ.out]; exact hsl)
 clear hsl
 go_wp2_with fail
 clear hq
 obtain ⟨cr, hcr⟩ : ∃ cr, cr = crcL (l.take (l.length - 4)) := ⟨_, rfl⟩
 have HCR := Hi hcr
 have hcr32 : cr < 2 ^ 32 := by rw [hcr]; exact crcL_lt _
 have HSUM : Hid (∀ W, Mod (fun _ => False) w2 W → Calls Tryz.prog 57 #[.slice (some ⟨bb, bo, none⟩) (l.length - 4) c] W fun e w' => e = .returned (.int .u32 (cr : Nat)) ∧ W = w') := Hi (fun W mW => by
  have h1 := (HR2.out.mod mW fun _ _ => id).take (l.length - 4)
  rw [bts, ← List.map_take] at h1
  have h2 := sumR_any (some ⟨bb, bo, none⟩) (l.take (l.length - 4)) c W h1 (by rw [List.length_take]; omega)
  rwa [List.length_take, show min (l.length - 4) l.length = l.length - 4 by omega, ← hcr] at h2)
 have HLOW : Hid (∀ W, Calls Tryz.prog 95 #[.slice none 0 0, .int .u32 (cr : Nat)] W fun e w' => ∃ a' c', e = .returned (.slice a' 4 c') ∧ Rd w' a' (bts (fourL cr)) ∧ Mod (fun _ => False) W w') := Hi (fun W => (low_any none 0 [] cr W (Mine.Own.nil _ _ _) (by simp) hcr32).mono fun e w' h => by
  obtain ⟨a', c', h1, h2, h3⟩ := h
  exact ⟨a', c', h1, h2.rd, h3.mod0⟩)
 have HCV : Hid (∀ W, Mod (fun _ => False) w2 W → (convert 23 9 (.slice (some ⟨bb, bo + (l.length - 4), none⟩) (l.length - (l.length - 4)) (c - (l.length - 4)))).run Tryz.prog W = .ok (.string ⟨(l.drop (l.length - 4)).toArray⟩) W) := Hi (fun W mW => by
  have h1 := subA_rd (HR2.out.mod mW fun _ _ => id) (c := c) (lo := l.length - 4) (k := 1) (fun h => by omega)
  have h2 : subA (some ⟨bb, bo, none⟩) c (l.length - 4) 1 = some ⟨bb, bo + (l.length - 4), none⟩ := by unfold subA; rw [if_neg (by omega), Nat.mul_one, Option.map_some]; simp [Addr.add]; omega
  rw [h2, Nat.mul_one, bts, ← List.map_drop] at h1
  have h3 := run_bytes24 (some ⟨bb, bo + (l.length - 4), none⟩) (l.drop (l.length - 4)) (c - (l.length - 4)) W h1
  rwa [List.length_drop] at h3)
 clear hcr
 obtain ⟨d4, hd4⟩ : ∃ d4, d4 = l.drop (l.length - 4) := ⟨_, rfl⟩
 rw [← hd4] at HCV
 have HD4 := Hi hd4
 clear hd4
 have hk4 : ((l.length : Int) - 4).toNat = l.length - 4 := by omega
 have hcx : ¬ (c = l.length - 4) := by omega
 have md := Hi ((Mod.refl (fun _ => False) w2).drew)
 have hcv := HCV.out _ md.out
 have HS2 := Hi (HS1.out.mod0 md.out)
 have HSUM2 := Hi (HSUM.out _ md.out)
 have HCV3 := Hi (fun W (mW : Mod (fun _ => False) w2.drew W) => HCV.out W (md.out.step mW fun _ _ e => e))
 have HR3 := Hi (HR2.out.mod md.out fun _ _ => id)
 refine wp_region_ord (fun w' => (convert 23 9 (.slice (some ⟨bb, bo + (l.length - 4), none⟩) (l.length - (l.length - 4)) (c - (l.length - 4)))).run Tryz.prog w' = .ok (.string ⟨d4.toArray⟩) w') [(0, 0), (0, 1), (0, 2), (0, 3), (0, 4), (0, 8), (0, 9), (0, 10), (0, 11), (0, 12), (1, 13), (2, 5), (2, 6), (2, 7), (0, 14)] (by kernel_rfl) (by kernel_rfl) ?_
 clear HS1 HR2 HSUM md pc0 pf0 pc1 pf1 pc2 pf2 qc0 qf0 qc1 qf1 qc2 qf2 qc3 qf3 qc4 qf4 qc5 qf5
 generalize w2.drew = w3 at *
 go_wp2_with (first
  |(refine ord_pure rfl rfl rfl (fun K hK => ?_); go_big_quiet_op; refine hK _ ?_; clear hK K)
  |(refine ord_skip rfl rfl ?_; simp only [Act.put, List.setIfInBounds_toArray, List.set_cons_zero, List.set_cons_succ])
  |(refine ord_held rfl rfl rfl (hcv) (fun K hK => ?_); apply Exists.intro; refine ⟨fun w' hs => ?_, hK _ ?_⟩; (revert hs; dsimp only; (try simp only [and_imp]); intros; go_simp; rfl); clear hK K)
  |(refine ord_keep rfl rfl (hcv) (fun K hK => ?_))
  |(refine ord_drop rfl rfl (fun K hK => ?_))
  |(refine ord_nil ?_))
 refine HSUM2.out.mono ?_
 rintro e w9 ⟨rfl, hw9⟩
 obtain rfl : w3 = w9 := hw9
 refine hK _ _ hcv ?_
 clear hK K HSUM2
 go_wp2_with (first
  |(refine ord_pure rfl rfl rfl (fun K hK => ?_); go_big_quiet_op; refine hK _ ?_; clear hK K)
  |(refine ord_skip rfl rfl ?_; simp only [Act.put, List.setIfInBounds_toArray, List.set_cons_zero, List.set_cons_succ])
  |(refine ord_held rfl rfl rfl (hcv) (fun K hK => ?_); apply Exists.intro; refine ⟨fun w' hs => ?_, hK _ ?_⟩; (revert hs; dsimp only; (try simp only [and_imp]); intros; go_simp; rfl); clear hK K)
  |(refine ord_keep rfl rfl (hcv) (fun K hK => ?_))
  |(refine ord_drop rfl rfl (fun K hK => ?_))
  |(refine ord_nil ?_))
 refine (HLOW.out w3).mono ?_
 clear hcv HLOW
 rintro e w4 ⟨a4, c4, rfl, h4, m4⟩
 have hcv4 := HCV3.out w4 m4
 have hcw : (convert 23 9 (.slice a4 4 c4)).run Tryz.prog w4 = .ok (.string ⟨(fourL cr).toArray⟩) w4 := run_bytes24 a4 (fourL cr) c4 w4 h4
 have HS4 := Hi (HS2.out.mod0 m4)
 have HR4 := Hi (HR3.out.mod m4 fun _ _ => id)
 clear h4 m4 HS2 HR3 HCV3 HCV
 refine hK _ _ hcv4 ?_
 clear hK K
 have h0 : w4.heap[B]? = some (.cells #[.string ⟨#[]⟩, .int .i64 0, .slice none 0 0] 86 (0, 0)) := HS4.out.get (k := 0) (by simp)
 have h1 : w4.heap[B + 1]? = some (.cells #[.string ⟨#[]⟩, .int .i64 0, .int .i64 0, .int .i64 0, .int .i64 0, .slice none 0 0] 120 (0, 0)) := HS4.out.get (k := 1) (by simp)
 have pc0 := cell_at (j := 0) h0 rfl; have pf0 := frozen_at (j := 0) h0; have pc1 := cell_at (j := 1) h0 rfl; have pf1 := frozen_at (j := 1) h0; have pc2 := cell_at (j := 2) h0 rfl; have pf2 := frozen_at (j := 2) h0
 have qc0 := cell_at (j := 0) h1 rfl; have qf0 := frozen_at (j := 0) h1; have qc1 := cell_at (j := 1) h1 rfl; have qf1 := frozen_at (j := 1) h1; have qc2 := cell_at (j := 2) h1 rfl; have qf2 := frozen_at (j := 2) h1; have qc3 := cell_at (j := 3) h1 rfl; have qf3 := frozen_at (j := 3) h1; have qc4 := cell_at (j := 4) h1 rfl; have qf4 := frozen_at (j := 4) h1; have qc5 := cell_at (j := 5) h1 rfl; have qf5 := frozen_at (j := 5) h1
 clear h0 h1
 obtain ⟨fr, hfr⟩ : ∃ fr, fr = fourL cr := ⟨_, rfl⟩
 rw [← hfr] at hcw
 have HFR := Hi hfr
 clear hfr
 by_cases hsum : fr = d4
 rotate_left
 ·have HH : Hid (headF l = 71) := Hi (by unfold headF; rw [if_neg h16, if_neg (by rintro (h | h); exact h14 h; exact h HMG.out), if_neg (by simp [HSL.out]), if_pos (by rw [← HD4.out, ← HCR.out, ← HFR.out]; exact fun e => hsum e.symm)])
  have hq : (fr == d4) = false := by simpa using hsum
  have HSM := Hi hsum
  clear hsum
  go_wp2_with (first
   |(refine ord_pure rfl rfl rfl (fun K hK => ?_); go_big_quiet_op; refine hK _ ?_; clear hK K)
   |(refine ord_skip rfl rfl ?_; simp only [Act.put, List.setIfInBounds_toArray, List.set_cons_zero, List.set_cons_succ])
   |(refine ord_held rfl rfl rfl (hcv4) (fun K hK => ?_); apply Exists.intro; refine ⟨fun w' hs => ?_, hK _ ?_⟩; (revert hs; dsimp only; (try simp only [and_imp]); intros; go_simp; rfl); clear hK K)
   |(refine ord_keep rfl rfl (hcv4) (fun K hK => ?_))
   |(refine ord_drop rfl rfl (fun K hK => ?_))
   |(refine ord_nil ?_))
  refine hK _ _ hcv4 ?_
  clear hK K
  go_wp2_with (first
   |(refine ord_pure rfl rfl rfl (fun K hK => ?_); go_big_quiet_op; refine hK _ ?_; clear hK K)
   |(refine ord_skip rfl rfl ?_; simp only [Act.put, List.setIfInBounds_toArray, List.set_cons_zero, List.set_cons_succ])
   |(refine ord_held rfl rfl rfl (hcv4) (fun K hK => ?_); apply Exists.intro; refine ⟨fun w' hs => ?_, hK _ ?_⟩; (revert hs; dsimp only; (try simp only [and_imp]); intros; go_simp; rfl); clear hK K)
   |(refine ord_keep rfl rfl (hcv4) (fun K hK => ?_))
   |(refine ord_drop rfl rfl (fun K hK => ?_))
   |(refine ord_nil ?_))
  have HSZ : Hid (RS w ((((((((((w4).setCell ⟨B, 0, none⟩ (.string ⟨#[]⟩)).setCell ⟨B, 1, none⟩ (.int .i64 0)).setCell ⟨B, 2, none⟩ (.slice none 0 0)).setCell ⟨B + 1, 0, none⟩ (.string ⟨#[]⟩)).setCell ⟨B + 1, 1, none⟩ (.int .i64 0)).setCell ⟨B + 1, 2, none⟩ (.int .i64 0)).setCell ⟨B + 1, 3, none⟩ (.int .i64 0)).setCell ⟨B + 1, 4, none⟩ (.int .i64 0)).setCell ⟨B + 1, 5, none⟩ (.slice none 0 0)) [boxI B #[.string ⟨#[]⟩, .int .i64 0, .slice none 0 0] 86, boxI (B + 1) #[.string ⟨#[]⟩, .int .i64 0, .int .i64 0, .int .i64 0, .int .i64 0, .slice none 0 0] 120]) := Hi (RS.cell (RS.cell (RS.cell (RS.cell (RS.cell (RS.cell (RS.cell (RS.cell (RS.cell HS4.out (k := 0) (by simp) rfl 0 (.string ⟨#[]⟩)) (k := 0) (by simp) rfl 1 (.int .i64 0)) (k := 0) (by simp) rfl 2 (.slice none 0 0)) (k := 1) (by simp) rfl 0 (.string ⟨#[]⟩)) (k := 1) (by simp) rfl 1 (.int .i64 0)) (k := 1) (by simp) rfl 2 (.int .i64 0)) (k := 1) (by simp) rfl 3 (.int .i64 0)) (k := 1) (by simp) rfl 4 (.int .i64 0)) (k := 1) (by simp) rfl 5 (.slice none 0 0))
  clear pc0 pf0 pc1 pf1 pc2 pf2 qc0 qf0 qc1 qf1 qc2 qf2 qc3 qf3 qc4 qf4 qc5 qf5
  generalize (((((((((w4).setCell ⟨B, 0, none⟩ (.string ⟨#[]⟩)).setCell ⟨B, 1, none⟩ (.int .i64 0)).setCell ⟨B, 2, none⟩ (.slice none 0 0)).setCell ⟨B + 1, 0, none⟩ (.string ⟨#[]⟩)).setCell ⟨B + 1, 1, none⟩ (.int .i64 0)).setCell ⟨B + 1, 2, none⟩ (.int .i64 0)).setCell ⟨B + 1, 3, none⟩ (.int .i64 0)).setCell ⟨B + 1, 4, none⟩ (.int .i64 0)).setCell ⟨B + 1, 5, none⟩ (.slice none 0 0) = wz at *
  have h0 : wz.heap[B]? = some (.cells #[.string ⟨#[]⟩, .int .i64 0, .slice none 0 0] 86 (0, 0)) := HSZ.out.get (k := 0) (by simp)
  have h1 : wz.heap[B + 1]? = some (.cells #[.string ⟨#[]⟩, .int .i64 0, .int .i64 0, .int .i64 0, .int .i64 0, .slice none 0 0] 120 (0, 0)) := HSZ.out.get (k := 1) (by simp)
  have pc0 := cell_at (j := 0) h0 rfl; have pf0 := frozen_at (j := 0) h0; have pc1 := cell_at (j := 1) h0 rfl; have pf1 := frozen_at (j := 1) h0; have pc2 := cell_at (j := 2) h0 rfl; have pf2 := frozen_at (j := 2) h0
  have qc0 := cell_at (j := 0) h1 rfl; have qf0 := frozen_at (j := 0) h1; have qc1 := cell_at (j := 1) h1 rfl; have qf1 := frozen_at (j := 1) h1; have qc2 := cell_at (j := 2) h1 rfl; have qf2 := frozen_at (j := 2) h1; have qc3 := cell_at (j := 3) h1 rfl; have qf3 := frozen_at (j := 3) h1; have qc4 := cell_at (j := 4) h1 rfl; have qf4 := frozen_at (j := 4) h1; have qc5 := cell_at (j := 5) h1 rfl; have qf5 := frozen_at (j := 5) h1
  have hlast : GPost l w (.returned (.tuple #[.agg #[.string ⟨#[]⟩, .int .i64 0, .slice none 0 0], .agg #[.string ⟨#[]⟩, .int .i64 0, .int .i64 0, .int .i64 0, .int .i64 0, .slice none 0 0], .int .i64 71])) wz := ⟨.inl ⟨71, .inl ⟨by rw [HH.out]; omega, HH.out.symm⟩, rfl⟩, HSZ.out.md⟩
  refine bodyPost_ret (v := .tuple #[.agg #[.string ⟨#[]⟩, .int .i64 0, .slice none 0 0], .agg #[.string ⟨#[]⟩, .int .i64 0, .int .i64 0, .int .i64 0, .int .i64 0, .slice none 0 0], .int .i64 71]) ?_ rfl hlast
  clear hlast
  simp [results, Tryz.results79, go_sem, pc0, pc1, pc2, qc0, qc1, qc2, qc3, qc4, qc5]
 have HH : Hid (headF l = 0) := Hi (by unfold headF; rw [if_neg h16, if_neg (by rintro (h | h); exact h14 h; exact h HMG.out), if_neg (by simp [HSL.out]), if_neg (by rw [← HD4.out, ← HCR.out, ← HFR.out]; exact fun e => e hsum.symm)])
 have hq : (fr == d4) = true := by simpa using hsum
 clear hsum pc0 pf0 pc1 pf1 pc2 pf2 qc0 qf0 qc1 qf1 qc2 qf2 qc3 qf3 qc4 qf4 qc5 qf5
 go_wp2_with (first
  |(refine ord_pure rfl rfl rfl (fun K hK => ?_); go_big_quiet_op; refine hK _ ?_; clear hK K)
  |(refine ord_skip rfl rfl ?_; simp only [Act.put, List.setIfInBounds_toArray, List.set_cons_zero, List.set_cons_succ])
  |(refine ord_held rfl rfl rfl (hcv4) (fun K hK => ?_); apply Exists.intro; refine ⟨fun w' hs => ?_, hK _ ?_⟩; (revert hs; dsimp only; (try simp only [and_imp]); intros; go_simp; rfl); clear hK K)
  |(refine ord_keep rfl rfl (hcv4) (fun K hK => ?_))
  |(refine ord_drop rfl rfl (fun K hK => ?_))
  |(refine ord_nil ?_))
 refine hK _ _ hcv4 ?_
 clear hK K
 go_wp2_with (first
  |(refine ord_pure rfl rfl rfl (fun K hK => ?_); go_big_quiet_op; refine hK _ ?_; clear hK K)
  |(refine ord_skip rfl rfl ?_; simp only [Act.put, List.setIfInBounds_toArray, List.set_cons_zero, List.set_cons_succ])
  |(refine ord_held rfl rfl rfl (hcv4) (fun K hK => ?_); apply Exists.intro; refine ⟨fun w' hs => ?_, hK _ ?_⟩; (revert hs; dsimp only; (try simp only [and_imp]); intros; go_simp; rfl); clear hK K)
  |(refine ord_keep rfl rfl (hcv4) (fun K hK => ?_))
  |(refine ord_drop rfl rfl (fun K hK => ?_))
  |(refine ord_nil ?_))
 clear hcv4 hcw hq hk4 hcx
 have hml : (midL l).length = l.length - 14 := mid_len
 have hm4 : l.length - 4 - 10 = (midL l).length := by omega
 rw [hm4]
 obtain ⟨m, hmm⟩ : ∃ m, m = midL l := ⟨_, rfl⟩
 have HMR : Rd w4 (some ⟨bb, bo + 10, none⟩) (bts m) := by
  have h1 := subA_part (w := w4) (a := some ⟨bb, bo, none⟩) (c := c) (from_ := 10) (n := l.length - 14) HR4.out hc
  have h2 : subA (some ⟨bb, bo, none⟩) c 10 1 = some ⟨bb, bo + 10, none⟩ := by unfold subA; rw [if_neg (by omega)]; rfl
  rw [h2] at h1
  rw [hmm]
  exact h1
 rw [← hmm] at hml hm4 ⊢
 have HMM := Hi hmm
 have HBBL := HR4.out.lt (by intro h; have h2 : l.length = 0 := by simpa [bts] using congrArg List.length h
                             omega) bb rfl
 have HGU := Hi (guess_any bb (bo + 10) (c - 10) m w4 HMR (by omega) (by omega) HBBL)
 clear hmm HMR hm4 HBBL
 refine HGU.out.mono ?_
 clear HGU
 rintro e w5 ⟨(⟨F, ra, rc, hP, hBd, rfl, hrows⟩ | ⟨hno, rfl⟩), hm5⟩
 rotate_left
 ·have HNO := Hi hno
  have HS5 := Hi ((HS4.out.mod0 hm5).mod0 ((Mod.refl _ w5).alloc (.cells #[.string ⟨#[]⟩, .int .i64 0, .slice none 0 0] 86)))
  clear hno hm5
  have h0 : (w5.alloc (.cells #[.string ⟨#[]⟩, .int .i64 0, .slice none 0 0] 86)).heap[B]? = some (.cells #[.string ⟨#[]⟩, .int .i64 0, .slice none 0 0] 86 (0, 0)) := HS5.out.get (k := 0) (by simp)
  have h1 : (w5.alloc (.cells #[.string ⟨#[]⟩, .int .i64 0, .slice none 0 0] 86)).heap[B + 1]? = some (.cells #[.string ⟨#[]⟩, .int .i64 0, .int .i64 0, .int .i64 0, .int .i64 0, .slice none 0 0] 120 (0, 0)) := HS5.out.get (k := 1) (by simp)
  have pc0 := cell_at (j := 0) h0 rfl; have pf0 := frozen_at (j := 0) h0; have pc1 := cell_at (j := 1) h0 rfl; have pf1 := frozen_at (j := 1) h0; have pc2 := cell_at (j := 2) h0 rfl; have pf2 := frozen_at (j := 2) h0
  have qc0 := cell_at (j := 0) h1 rfl; have qf0 := frozen_at (j := 0) h1; have qc1 := cell_at (j := 1) h1 rfl; have qf1 := frozen_at (j := 1) h1; have qc2 := cell_at (j := 2) h1 rfl; have qf2 := frozen_at (j := 2) h1; have qc3 := cell_at (j := 3) h1 rfl; have qf3 := frozen_at (j := 3) h1; have qc4 := cell_at (j := 4) h1 rfl; have qf4 := frozen_at (j := 4) h1; have qc5 := cell_at (j := 5) h1 rfl; have qf5 := frozen_at (j := 5) h1
  clear h0 h1
  go_wp2_with fail
  have HSZ : Hid (RS w (((((((((((w5.alloc (.cells #[.string ⟨#[]⟩, .int .i64 0, .slice none 0 0] 86))).setCell ⟨B, 0, none⟩ (.string ⟨#[]⟩)).setCell ⟨B, 1, none⟩ (.int .i64 0)).setCell ⟨B, 2, none⟩ (.slice none 0 0)).setCell ⟨B + 1, 0, none⟩ (.string ⟨#[]⟩)).setCell ⟨B + 1, 1, none⟩ (.int .i64 0)).setCell ⟨B + 1, 2, none⟩ (.int .i64 0)).setCell ⟨B + 1, 3, none⟩ (.int .i64 0)).setCell ⟨B + 1, 4, none⟩ (.int .i64 0)).setCell ⟨B + 1, 5, none⟩ (.slice none 0 0)) [boxI B #[.string ⟨#[]⟩, .int .i64 0, .slice none 0 0] 86, boxI (B + 1) #[.string ⟨#[]⟩, .int .i64 0, .int .i64 0, .int .i64 0, .int .i64 0, .slice none 0 0] 120]) := Hi (RS.cell (RS.cell (RS.cell (RS.cell (RS.cell (RS.cell (RS.cell (RS.cell (RS.cell HS5.out (k := 0) (by simp) rfl 0 (.string ⟨#[]⟩)) (k := 0) (by simp) rfl 1 (.int .i64 0)) (k := 0) (by simp) rfl 2 (.slice none 0 0)) (k := 1) (by simp) rfl 0 (.string ⟨#[]⟩)) (k := 1) (by simp) rfl 1 (.int .i64 0)) (k := 1) (by simp) rfl 2 (.int .i64 0)) (k := 1) (by simp) rfl 3 (.int .i64 0)) (k := 1) (by simp) rfl 4 (.int .i64 0)) (k := 1) (by simp) rfl 5 (.slice none 0 0))
  clear pc0 pf0 pc1 pf1 pc2 pf2 qc0 qf0 qc1 qf1 qc2 qf2 qc3 qf3 qc4 qf4 qc5 qf5
  generalize ((((((((((w5.alloc (.cells #[.string ⟨#[]⟩, .int .i64 0, .slice none 0 0] 86))).setCell ⟨B, 0, none⟩ (.string ⟨#[]⟩)).setCell ⟨B, 1, none⟩ (.int .i64 0)).setCell ⟨B, 2, none⟩ (.slice none 0 0)).setCell ⟨B + 1, 0, none⟩ (.string ⟨#[]⟩)).setCell ⟨B + 1, 1, none⟩ (.int .i64 0)).setCell ⟨B + 1, 2, none⟩ (.int .i64 0)).setCell ⟨B + 1, 3, none⟩ (.int .i64 0)).setCell ⟨B + 1, 4, none⟩ (.int .i64 0)).setCell ⟨B + 1, 5, none⟩ (.slice none 0 0) = wz at *
  have h0 : wz.heap[B]? = some (.cells #[.string ⟨#[]⟩, .int .i64 0, .slice none 0 0] 86 (0, 0)) := HSZ.out.get (k := 0) (by simp)
  have h1 : wz.heap[B + 1]? = some (.cells #[.string ⟨#[]⟩, .int .i64 0, .int .i64 0, .int .i64 0, .int .i64 0, .slice none 0 0] 120 (0, 0)) := HSZ.out.get (k := 1) (by simp)
  have pc0 := cell_at (j := 0) h0 rfl; have pf0 := frozen_at (j := 0) h0; have pc1 := cell_at (j := 1) h0 rfl; have pf1 := frozen_at (j := 1) h0; have pc2 := cell_at (j := 2) h0 rfl; have pf2 := frozen_at (j := 2) h0
  have qc0 := cell_at (j := 0) h1 rfl; have qf0 := frozen_at (j := 0) h1; have qc1 := cell_at (j := 1) h1 rfl; have qf1 := frozen_at (j := 1) h1; have qc2 := cell_at (j := 2) h1 rfl; have qf2 := frozen_at (j := 2) h1; have qc3 := cell_at (j := 3) h1 rfl; have qf3 := frozen_at (j := 3) h1; have qc4 := cell_at (j := 4) h1 rfl; have qf4 := frozen_at (j := 4) h1; have qc5 := cell_at (j := 5) h1 rfl; have qf5 := frozen_at (j := 5) h1
  have hlast : GPost l w (.returned (.tuple #[.agg #[.string ⟨#[]⟩, .int .i64 0, .slice none 0 0], .agg #[.string ⟨#[]⟩, .int .i64 0, .int .i64 0, .int .i64 0, .int .i64 0, .slice none 0 0], .int .i64 70])) wz := ⟨.inl ⟨70, .inr ⟨HH.out, fun G hG1 hG2 => HNO.out G (by rw [HMM.out]; exact hG1) hG2.ok.bounds, rfl⟩, rfl⟩, HSZ.out.md⟩
  refine bodyPost_ret (v := .tuple #[.agg #[.string ⟨#[]⟩, .int .i64 0, .slice none 0 0], .agg #[.string ⟨#[]⟩, .int .i64 0, .int .i64 0, .int .i64 0, .int .i64 0, .slice none 0 0], .int .i64 70]) ?_ rfl hlast
  clear hlast
  simp [results, Tryz.results79, go_sem, pc0, pc1, pc2, qc0, qc1, qc2, qc3, qc4, qc5]
 obtain ⟨hs, hLL⟩ := hrows
 have HPA : Hid (Parse (midL l) F) := Hi (by rw [← HMM.out]; exact hP)
 have HRL : Hid (LL (fun b => w4.heap.size ≤ b) w4 w5 81 ra rc hs ((rowsF F.ts F.cs F.n).map sts)) := Hi hLL
 have HMW4 := Hi HS4.out.md
 have HB4 : Hid (B + 1 < w4.heap.size) := Hi (Array.getElem?_eq_some_iff.1 (show w4.heap[B + 1]? = some _ from HS4.out.get (k := 1) (by simp))).1
 have hrel := rel_ok hP hBd (hLL.mod0 ((Mod.refl _ w5).alloc (.cells #[.string ⟨F.nm.toArray⟩, .int .i64 F.A, .slice ra F.n rc] 86)))
 have HBD := Hi hBd
 have HLD := Hi (laidR7_any ⟨F.nm.toArray⟩ F.A ra rc hs (rowsF F.ts F.cs F.n) _ hrel)
 rw [rowsF_length] at HLD
 have HS6 : Hid (RS w (w5.alloc (.cells #[.string ⟨F.nm.toArray⟩, .int .i64 F.A, .slice ra F.n rc] 86)) [boxI B #[.string ⟨#[]⟩, .int .i64 0, .slice none 0 0] 86, boxI (B + 1) #[.string ⟨#[]⟩, .int .i64 0, .int .i64 0, .int .i64 0, .int .i64 0, .slice none 0 0] 120, boxI w5.heap.size #[.string ⟨F.nm.toArray⟩, .int .i64 F.A, .slice ra F.n rc] 86]) := Hi ((HS4.out.mod0 hm5).push ((Mod.refl _ w5).alloc (.cells #[.string ⟨F.nm.toArray⟩, .int .i64 F.A, .slice ra F.n rc] 86)) (heap_alloc_new w5 _) (fun b hb => Nat.le_of_eq (Eq.symm hb)))
 have HR6 := Hi ((HR4.out.mod hm5 fun _ _ => id).mod ((Mod.refl (fun _ => False) w5).alloc (.cells #[.string ⟨F.nm.toArray⟩, .int .i64 F.A, .slice ra F.n rc] 86)) fun _ _ => id)
 have HML := Hi ((Mod.refl (fun _ => False) w5).alloc (.cells #[.string ⟨F.nm.toArray⟩, .int .i64 F.A, .slice ra F.n rc] 86))
 clear hm5 hP hBd hLL hrel HS4 HR4
 simp only [relV]
 go_wp2_with fail
 obtain ⟨X, hX⟩ : ∃ X, X = w5.heap.size := ⟨_, rfl⟩
 rw [← hX] at HS6 ⊢
 have HXX := Hi hX
 clear hX
 generalize w5.alloc (.cells #[.string ⟨F.nm.toArray⟩, .int .i64 F.A, .slice ra F.n rc] 86) = w6 at *
 by_cases hfine : Fine (midL l) F
 rotate_left
 ·have HNF := Hi hfine
  have HLD2 : Hid (Calls Tryz.prog 97 #[.agg #[.string ⟨F.nm.toArray⟩, .int .i64 F.A, .slice ra F.n rc]] w6 fun e w' => (e = .returned (.tuple #[.slice none 0 0, .agg #[.string ⟨#[]⟩, .int .i64 0, .int .i64 0, .int .i64 0, .int .i64 0, .slice none 0 0], .int .i64 3]) ∨ ∃ x oa oc k1 k2 k3 pa pc, x ≠ l ∧ e = .returned (.tuple #[.slice oa (x : List UInt8).length oc, .agg #[.string ⟨F.nm.toArray⟩, .int .i64 F.A, .int .i64 (k1 : Int), .int .i64 (k2 : Int), .int .i64 (k3 : Int), .slice pa F.A pc], .int .i64 0]) ∧ Rd w' oa (bts x)) ∧ Mod (fun _ => False) w6 w') := Hi (HLD.out.mono fun e w' h => by
   rcases h with ⟨⟨_, h1⟩ | ⟨oa, oc, pa, pc, _, h1, h2, _, _⟩, h3⟩
   ·exact ⟨.inl h1, h3⟩
   ·refine ⟨.inr ⟨_, oa, oc, _, _, _, pa, pc, fun e => hfine ?_, h1, h2⟩, h3⟩
    rw [ba_list] at e
    have h4 := (file_iff HH.out).1 e
    exact fine_back (by rw [mid_len]; omega) HPA.out HBD.out h4)
  clear hfine HLD
  refine HLD2.out.mono ?_
  clear HLD2
  rintro e w7 ⟨(rfl | ⟨x, oa, oc, k1, k2, k3, pa, pc, hne, rfl, hrx⟩), hm7⟩
  ·have HS7 := Hi ((HS6.out.mod0 hm7).mod0 ((Mod.refl _ w7).alloc (.cells #[.string ⟨#[]⟩, .int .i64 0, .int .i64 0, .int .i64 0, .int .i64 0, .slice none 0 0] 120)))
   clear hm7 HS6
   have HS8 : Hid (RS w (w7.alloc (.cells #[.string ⟨#[]⟩, .int .i64 0, .int .i64 0, .int .i64 0, .int .i64 0, .slice none 0 0] 120)) [boxI B #[.string ⟨#[]⟩, .int .i64 0, .slice none 0 0] 86, boxI (B + 1) #[.string ⟨#[]⟩, .int .i64 0, .int .i64 0, .int .i64 0, .int .i64 0, .slice none 0 0] 120]) := Hi ⟨HS7.out.fam.sub (List.sublist_append_left [_, _] [_]), HS7.out.md⟩
   have h0 : (w7.alloc (.cells #[.string ⟨#[]⟩, .int .i64 0, .int .i64 0, .int .i64 0, .int .i64 0, .slice none 0 0] 120)).heap[B]? = some (.cells #[.string ⟨#[]⟩, .int .i64 0, .slice none 0 0] 86 (0, 0)) := HS8.out.get (k := 0) (by simp)
   have h1 : (w7.alloc (.cells #[.string ⟨#[]⟩, .int .i64 0, .int .i64 0, .int .i64 0, .int .i64 0, .slice none 0 0] 120)).heap[B + 1]? = some (.cells #[.string ⟨#[]⟩, .int .i64 0, .int .i64 0, .int .i64 0, .int .i64 0, .slice none 0 0] 120 (0, 0)) := HS8.out.get (k := 1) (by simp)
   have pc0 := cell_at (j := 0) h0 rfl; have pf0 := frozen_at (j := 0) h0; have pc1 := cell_at (j := 1) h0 rfl; have pf1 := frozen_at (j := 1) h0; have pc2 := cell_at (j := 2) h0 rfl; have pf2 := frozen_at (j := 2) h0
   have qc0 := cell_at (j := 0) h1 rfl; have qf0 := frozen_at (j := 0) h1; have qc1 := cell_at (j := 1) h1 rfl; have qf1 := frozen_at (j := 1) h1; have qc2 := cell_at (j := 2) h1 rfl; have qf2 := frozen_at (j := 2) h1; have qc3 := cell_at (j := 3) h1 rfl; have qf3 := frozen_at (j := 3) h1; have qc4 := cell_at (j := 4) h1 rfl; have qf4 := frozen_at (j := 4) h1; have qc5 := cell_at (j := 5) h1 rfl; have qf5 := frozen_at (j := 5) h1
   clear h0 h1
   go_wp2_with fail
   have HSZ : Hid (RS w (((((((((((w7.alloc (.cells #[.string ⟨#[]⟩, .int .i64 0, .int .i64 0, .int .i64 0, .int .i64 0, .slice none 0 0] 120))).setCell ⟨B, 0, none⟩ (.string ⟨#[]⟩)).setCell ⟨B, 1, none⟩ (.int .i64 0)).setCell ⟨B, 2, none⟩ (.slice none 0 0)).setCell ⟨B + 1, 0, none⟩ (.string ⟨#[]⟩)).setCell ⟨B + 1, 1, none⟩ (.int .i64 0)).setCell ⟨B + 1, 2, none⟩ (.int .i64 0)).setCell ⟨B + 1, 3, none⟩ (.int .i64 0)).setCell ⟨B + 1, 4, none⟩ (.int .i64 0)).setCell ⟨B + 1, 5, none⟩ (.slice none 0 0)) [boxI B #[.string ⟨#[]⟩, .int .i64 0, .slice none 0 0] 86, boxI (B + 1) #[.string ⟨#[]⟩, .int .i64 0, .int .i64 0, .int .i64 0, .int .i64 0, .slice none 0 0] 120]) := Hi (RS.cell (RS.cell (RS.cell (RS.cell (RS.cell (RS.cell (RS.cell (RS.cell (RS.cell HS8.out (k := 0) (by simp) rfl 0 (.string ⟨#[]⟩)) (k := 0) (by simp) rfl 1 (.int .i64 0)) (k := 0) (by simp) rfl 2 (.slice none 0 0)) (k := 1) (by simp) rfl 0 (.string ⟨#[]⟩)) (k := 1) (by simp) rfl 1 (.int .i64 0)) (k := 1) (by simp) rfl 2 (.int .i64 0)) (k := 1) (by simp) rfl 3 (.int .i64 0)) (k := 1) (by simp) rfl 4 (.int .i64 0)) (k := 1) (by simp) rfl 5 (.slice none 0 0))
   clear pc0 pf0 pc1 pf1 pc2 pf2 qc0 qf0 qc1 qf1 qc2 qf2 qc3 qf3 qc4 qf4 qc5 qf5
   generalize ((((((((((w7.alloc (.cells #[.string ⟨#[]⟩, .int .i64 0, .int .i64 0, .int .i64 0, .int .i64 0, .slice none 0 0] 120))).setCell ⟨B, 0, none⟩ (.string ⟨#[]⟩)).setCell ⟨B, 1, none⟩ (.int .i64 0)).setCell ⟨B, 2, none⟩ (.slice none 0 0)).setCell ⟨B + 1, 0, none⟩ (.string ⟨#[]⟩)).setCell ⟨B + 1, 1, none⟩ (.int .i64 0)).setCell ⟨B + 1, 2, none⟩ (.int .i64 0)).setCell ⟨B + 1, 3, none⟩ (.int .i64 0)).setCell ⟨B + 1, 4, none⟩ (.int .i64 0)).setCell ⟨B + 1, 5, none⟩ (.slice none 0 0) = wz at *
   have h0 : wz.heap[B]? = some (.cells #[.string ⟨#[]⟩, .int .i64 0, .slice none 0 0] 86 (0, 0)) := HSZ.out.get (k := 0) (by simp)
   have h1 : wz.heap[B + 1]? = some (.cells #[.string ⟨#[]⟩, .int .i64 0, .int .i64 0, .int .i64 0, .int .i64 0, .slice none 0 0] 120 (0, 0)) := HSZ.out.get (k := 1) (by simp)
   have pc0 := cell_at (j := 0) h0 rfl; have pf0 := frozen_at (j := 0) h0; have pc1 := cell_at (j := 1) h0 rfl; have pf1 := frozen_at (j := 1) h0; have pc2 := cell_at (j := 2) h0 rfl; have pf2 := frozen_at (j := 2) h0
   have qc0 := cell_at (j := 0) h1 rfl; have qf0 := frozen_at (j := 0) h1; have qc1 := cell_at (j := 1) h1 rfl; have qf1 := frozen_at (j := 1) h1; have qc2 := cell_at (j := 2) h1 rfl; have qf2 := frozen_at (j := 2) h1; have qc3 := cell_at (j := 3) h1 rfl; have qf3 := frozen_at (j := 3) h1; have qc4 := cell_at (j := 4) h1 rfl; have qf4 := frozen_at (j := 4) h1; have qc5 := cell_at (j := 5) h1 rfl; have qf5 := frozen_at (j := 5) h1
   have hlast : GPost l w (.returned (.tuple #[.agg #[.string ⟨#[]⟩, .int .i64 0, .slice none 0 0], .agg #[.string ⟨#[]⟩, .int .i64 0, .int .i64 0, .int .i64 0, .int .i64 0, .slice none 0 0], .int .i64 70])) wz := ⟨.inl ⟨70, .inr ⟨HH.out, fun G hG1 hG2 => HNF.out (by rw [HPA.out.same hG1]; exact hG2), rfl⟩, rfl⟩, HSZ.out.md⟩
   refine bodyPost_ret (v := .tuple #[.agg #[.string ⟨#[]⟩, .int .i64 0, .slice none 0 0], .agg #[.string ⟨#[]⟩, .int .i64 0, .int .i64 0, .int .i64 0, .int .i64 0, .slice none 0 0], .int .i64 70]) ?_ rfl hlast
   clear hlast
   simp [results, Tryz.results79, go_sem, pc0, pc1, pc2, qc0, qc1, qc2, qc3, qc4, qc5]
  ·have HS7 := Hi ((HS6.out.mod0 hm7).mod0 ((Mod.refl _ w7).alloc (.cells #[.string ⟨F.nm.toArray⟩, .int .i64 F.A, .int .i64 (k1 : Int), .int .i64 (k2 : Int), .int .i64 (k3 : Int), .slice pa F.A pc] 120)))
   have HS8 : Hid (RS w (w7.alloc (.cells #[.string ⟨F.nm.toArray⟩, .int .i64 F.A, .int .i64 (k1 : Int), .int .i64 (k2 : Int), .int .i64 (k3 : Int), .slice pa F.A pc] 120)) [boxI B #[.string ⟨#[]⟩, .int .i64 0, .slice none 0 0] 86, boxI (B + 1) #[.string ⟨#[]⟩, .int .i64 0, .int .i64 0, .int .i64 0, .int .i64 0, .slice none 0 0] 120]) := Hi ⟨HS7.out.fam.sub (List.sublist_append_left [_, _] [_]), HS7.out.md⟩
   have ma := (Mod.refl (fun _ => False) w7).alloc (.cells #[.string ⟨F.nm.toArray⟩, .int .i64 F.A, .int .i64 (k1 : Int), .int .i64 (k2 : Int), .int .i64 (k3 : Int), .slice pa F.A pc] 120)
   have hcx1 := run_bytes24 oa x oc _ (hrx.mod ma fun _ _ => id)
   have hcx2 := run_bytes24 (some ⟨bb, bo, none⟩) l c _ ((HR6.out.mod hm7 fun _ _ => id).mod ma fun _ _ => id)
   have hq : (x == l) = false := by simpa using hne
   clear hm7 HS6 HS7 ma hrx hne
   have h0 : (w7.alloc (.cells #[.string ⟨F.nm.toArray⟩, .int .i64 F.A, .int .i64 (k1 : Int), .int .i64 (k2 : Int), .int .i64 (k3 : Int), .slice pa F.A pc] 120)).heap[B]? = some (.cells #[.string ⟨#[]⟩, .int .i64 0, .slice none 0 0] 86 (0, 0)) := HS8.out.get (k := 0) (by simp)
   have h1 : (w7.alloc (.cells #[.string ⟨F.nm.toArray⟩, .int .i64 F.A, .int .i64 (k1 : Int), .int .i64 (k2 : Int), .int .i64 (k3 : Int), .slice pa F.A pc] 120)).heap[B + 1]? = some (.cells #[.string ⟨#[]⟩, .int .i64 0, .int .i64 0, .int .i64 0, .int .i64 0, .slice none 0 0] 120 (0, 0)) := HS8.out.get (k := 1) (by simp)
   have pc0 := cell_at (j := 0) h0 rfl; have pf0 := frozen_at (j := 0) h0; have pc1 := cell_at (j := 1) h0 rfl; have pf1 := frozen_at (j := 1) h0; have pc2 := cell_at (j := 2) h0 rfl; have pf2 := frozen_at (j := 2) h0
   have qc0 := cell_at (j := 0) h1 rfl; have qf0 := frozen_at (j := 0) h1; have qc1 := cell_at (j := 1) h1 rfl; have qf1 := frozen_at (j := 1) h1; have qc2 := cell_at (j := 2) h1 rfl; have qf2 := frozen_at (j := 2) h1; have qc3 := cell_at (j := 3) h1 rfl; have qf3 := frozen_at (j := 3) h1; have qc4 := cell_at (j := 4) h1 rfl; have qf4 := frozen_at (j := 4) h1; have qc5 := cell_at (j := 5) h1 rfl; have qf5 := frozen_at (j := 5) h1
   clear h0 h1
   go_wp2_with fail
   clear hcx1 hcx2
   have HSZ : Hid (RS w (((((((((((w7.alloc (.cells #[.string ⟨F.nm.toArray⟩, .int .i64 F.A, .int .i64 (k1 : Int), .int .i64 (k2 : Int), .int .i64 (k3 : Int), .slice pa F.A pc] 120))).setCell ⟨B, 0, none⟩ (.string ⟨#[]⟩)).setCell ⟨B, 1, none⟩ (.int .i64 0)).setCell ⟨B, 2, none⟩ (.slice none 0 0)).setCell ⟨B + 1, 0, none⟩ (.string ⟨#[]⟩)).setCell ⟨B + 1, 1, none⟩ (.int .i64 0)).setCell ⟨B + 1, 2, none⟩ (.int .i64 0)).setCell ⟨B + 1, 3, none⟩ (.int .i64 0)).setCell ⟨B + 1, 4, none⟩ (.int .i64 0)).setCell ⟨B + 1, 5, none⟩ (.slice none 0 0)) [boxI B #[.string ⟨#[]⟩, .int .i64 0, .slice none 0 0] 86, boxI (B + 1) #[.string ⟨#[]⟩, .int .i64 0, .int .i64 0, .int .i64 0, .int .i64 0, .slice none 0 0] 120]) := Hi (RS.cell (RS.cell (RS.cell (RS.cell (RS.cell (RS.cell (RS.cell (RS.cell (RS.cell HS8.out (k := 0) (by simp) rfl 0 (.string ⟨#[]⟩)) (k := 0) (by simp) rfl 1 (.int .i64 0)) (k := 0) (by simp) rfl 2 (.slice none 0 0)) (k := 1) (by simp) rfl 0 (.string ⟨#[]⟩)) (k := 1) (by simp) rfl 1 (.int .i64 0)) (k := 1) (by simp) rfl 2 (.int .i64 0)) (k := 1) (by simp) rfl 3 (.int .i64 0)) (k := 1) (by simp) rfl 4 (.int .i64 0)) (k := 1) (by simp) rfl 5 (.slice none 0 0))
   clear pc0 pf0 pc1 pf1 pc2 pf2 qc0 qf0 qc1 qf1 qc2 qf2 qc3 qf3 qc4 qf4 qc5 qf5
   generalize ((((((((((w7.alloc (.cells #[.string ⟨F.nm.toArray⟩, .int .i64 F.A, .int .i64 (k1 : Int), .int .i64 (k2 : Int), .int .i64 (k3 : Int), .slice pa F.A pc] 120))).setCell ⟨B, 0, none⟩ (.string ⟨#[]⟩)).setCell ⟨B, 1, none⟩ (.int .i64 0)).setCell ⟨B, 2, none⟩ (.slice none 0 0)).setCell ⟨B + 1, 0, none⟩ (.string ⟨#[]⟩)).setCell ⟨B + 1, 1, none⟩ (.int .i64 0)).setCell ⟨B + 1, 2, none⟩ (.int .i64 0)).setCell ⟨B + 1, 3, none⟩ (.int .i64 0)).setCell ⟨B + 1, 4, none⟩ (.int .i64 0)).setCell ⟨B + 1, 5, none⟩ (.slice none 0 0) = wz at *
   have h0 : wz.heap[B]? = some (.cells #[.string ⟨#[]⟩, .int .i64 0, .slice none 0 0] 86 (0, 0)) := HSZ.out.get (k := 0) (by simp)
   have h1 : wz.heap[B + 1]? = some (.cells #[.string ⟨#[]⟩, .int .i64 0, .int .i64 0, .int .i64 0, .int .i64 0, .slice none 0 0] 120 (0, 0)) := HSZ.out.get (k := 1) (by simp)
   have pc0 := cell_at (j := 0) h0 rfl; have pf0 := frozen_at (j := 0) h0; have pc1 := cell_at (j := 1) h0 rfl; have pf1 := frozen_at (j := 1) h0; have pc2 := cell_at (j := 2) h0 rfl; have pf2 := frozen_at (j := 2) h0
   have qc0 := cell_at (j := 0) h1 rfl; have qf0 := frozen_at (j := 0) h1; have qc1 := cell_at (j := 1) h1 rfl; have qf1 := frozen_at (j := 1) h1; have qc2 := cell_at (j := 2) h1 rfl; have qf2 := frozen_at (j := 2) h1; have qc3 := cell_at (j := 3) h1 rfl; have qf3 := frozen_at (j := 3) h1; have qc4 := cell_at (j := 4) h1 rfl; have qf4 := frozen_at (j := 4) h1; have qc5 := cell_at (j := 5) h1 rfl; have qf5 := frozen_at (j := 5) h1
   have hlast : GPost l w (.returned (.tuple #[.agg #[.string ⟨#[]⟩, .int .i64 0, .slice none 0 0], .agg #[.string ⟨#[]⟩, .int .i64 0, .int .i64 0, .int .i64 0, .int .i64 0, .slice none 0 0], .int .i64 70])) wz := ⟨.inl ⟨70, .inr ⟨HH.out, fun G hG1 hG2 => HNF.out (by rw [HPA.out.same hG1]; exact hG2), rfl⟩, rfl⟩, HSZ.out.md⟩
   refine bodyPost_ret (v := .tuple #[.agg #[.string ⟨#[]⟩, .int .i64 0, .slice none 0 0], .agg #[.string ⟨#[]⟩, .int .i64 0, .int .i64 0, .int .i64 0, .int .i64 0, .slice none 0 0], .int .i64 70]) ?_ rfl hlast
   clear hlast
   simp [results, Tryz.results79, go_sem, pc0, pc1, pc2, qc0, qc1, qc2, qc3, qc4, qc5]
 have HFI := Hi hfine
 have HLD3 : Hid (Calls Tryz.prog 97 #[.agg #[.string ⟨F.nm.toArray⟩, .int .i64 F.A, .slice ra F.n rc]] w6 fun e w' => (∃ oa oc pa pc, e = .returned (.tuple #[.slice oa l.length oc, .agg #[.string ⟨F.nm.toArray⟩, .int .i64 F.A, .int .i64 F.n, .int .i64 F.ts.length, .int .i64 F.d, .slice pa F.A pc], .int .i64 0]) ∧ Rd w' oa (bts l) ∧ Rd w' pa (ns F.ps) ∧ ∀ b, blk pa = some b → w6.heap.size ≤ b) ∧ Mod (fun _ => False) w6 w') := Hi (HLD.out.mono fun e w' h => by
  obtain ⟨e1, e2, e3, e4⟩ := fine_of HPA.out hfine
  have K := HPA.out.facts
  rcases h with ⟨⟨h0, _⟩ | ⟨oa, oc, pa, pc, _, h1, h2, h3, h4⟩, h5⟩
  ·rw [ba_list] at h0
   exact absurd h0 (not_big HH.out HPA.out hfine)
  ·rw [ba_list, e4, head_file HH.out] at h1 h2
   rw [e1, e2, rowsF_length, ← K.d] at h1
   rw [e1, e3, ← K.ps] at h3
   exact ⟨⟨oa, oc, pa, pc, h1, h2, h3, h4⟩, h5⟩)
 clear hfine HLD
 refine HLD3.out.mono ?_
 clear HLD3
 rintro e w7 ⟨⟨oa, oc, pa, pc, rfl, hrx, hrp, hpf⟩, hm7⟩
 have ma := (Mod.refl (fun _ => False) w7).alloc (.cells #[.string ⟨F.nm.toArray⟩, .int .i64 F.A, .int .i64 F.n, .int .i64 F.ts.length, .int .i64 F.d, .slice pa F.A pc] 120)
 have HS8 : Hid (RS w (w7.alloc (.cells #[.string ⟨F.nm.toArray⟩, .int .i64 F.A, .int .i64 F.n, .int .i64 F.ts.length, .int .i64 F.d, .slice pa F.A pc] 120)) [boxI B #[.string ⟨#[]⟩, .int .i64 0, .slice none 0 0] 86, boxI (B + 1) #[.string ⟨#[]⟩, .int .i64 0, .int .i64 0, .int .i64 0, .int .i64 0, .slice none 0 0] 120, boxI X #[.string ⟨F.nm.toArray⟩, .int .i64 F.A, .slice ra F.n rc] 86, boxI w7.heap.size #[.string ⟨F.nm.toArray⟩, .int .i64 F.A, .int .i64 F.n, .int .i64 F.ts.length, .int .i64 F.d, .slice pa F.A pc] 120]) := Hi ((HS6.out.mod0 hm7).push ma (heap_alloc_new w7 _) (fun b hb => Nat.le_of_eq (Eq.symm hb)))
 have hcx1 := run_bytes24 oa l oc _ (hrx.mod ma fun _ _ => id)
 have hcx2 := run_bytes24 (some ⟨bb, bo, none⟩) l c _ ((HR6.out.mod hm7 fun _ _ => id).mod ma fun _ _ => id)
 have HRP := Hi hrp
 have HPF := Hi hpf
 have HM7 := Hi (HML.out.step hm7 fun _ _ e => e)
 have HMS := Hi hm7.size
 have HM19 : Hid (Mod (fun b => b = B ∨ b = B + 1) w7 (w7.alloc (.cells #[.string ⟨F.nm.toArray⟩, .int .i64 F.A, .int .i64 F.n, .int .i64 F.ts.length, .int .i64 F.d, .slice pa F.A pc] 120))) := Hi ((Mod.refl _ w7).alloc _)
 have hq : (l == l) = true := by simp
 have HXB : Hid (B + 1 < w6.heap.size) := Hi (Array.getElem?_eq_some_iff.1 (show w6.heap[B + 1]? = some _ from HS6.out.get (k := 1) (by simp))).1
 clear hm7 HS6 ma hrx hrp hpf HR6
 obtain ⟨Y, hY⟩ : ∃ Y, Y = w7.heap.size := ⟨_, rfl⟩
 go_upto_region 14 with fail
 rw [← hY] at HS8 ⊢
 clear hY
 generalize w7.alloc (.cells #[.string ⟨F.nm.toArray⟩, .int .i64 F.A, .int .i64 F.n, .int .i64 F.ts.length, .int .i64 F.d, .slice pa F.A pc] 120) = w19 at *
 go_wp2_with fail
 clear hcx1 hcx2 hq
 refine wp_region_ord (fun w' => (w'.cell? ⟨X, 0, none⟩ = some (.string ⟨F.nm.toArray⟩) ∧ w'.cell? ⟨X, 1, none⟩ = some (.int .i64 F.A) ∧ w'.cell? ⟨X, 2, none⟩ = some (.slice ra F.n rc)) ∧ w'.cell? ⟨Y, 0, none⟩ = some (.string ⟨F.nm.toArray⟩) ∧ w'.cell? ⟨Y, 1, none⟩ = some (.int .i64 F.A) ∧ w'.cell? ⟨Y, 2, none⟩ = some (.int .i64 F.n) ∧ w'.cell? ⟨Y, 3, none⟩ = some (.int .i64 F.ts.length) ∧ w'.cell? ⟨Y, 4, none⟩ = some (.int .i64 F.d) ∧ w'.cell? ⟨Y, 5, none⟩ = some (.slice pa F.A pc)) [(1, 0), (1, 1), (2, 2), (3, 3), (0, 4)] (by kernel_rfl) (by kernel_rfl) ?_
 have HS20 := Hi (HS8.out.mod0 (w' := w19.drew) ((Mod.refl _ w19).drew))
 have HM20 := Hi (HM19.out.drew)
 clear HS8 HM19
 generalize w19.drew = w20 at *
 have h0 : w20.heap[B]? = some (.cells #[.string ⟨#[]⟩, .int .i64 0, .slice none 0 0] 86 (0, 0)) := HS20.out.get (k := 0) (by simp)
 have pc0 := cell_at (j := 0) h0 rfl; have pf0 := frozen_at (j := 0) h0; have pc1 := cell_at (j := 1) h0 rfl; have pf1 := frozen_at (j := 1) h0; have pc2 := cell_at (j := 2) h0 rfl; have pf2 := frozen_at (j := 2) h0
 clear h0
 have hX : w20.heap[X]? = some (.cells #[.string ⟨F.nm.toArray⟩, .int .i64 F.A, .slice ra F.n rc] 86 (0, 0)) := HS20.out.get (k := 2) (by simp)
 have hY : w20.heap[Y]? = some (.cells #[.string ⟨F.nm.toArray⟩, .int .i64 F.A, .int .i64 F.n, .int .i64 F.ts.length, .int .i64 F.d, .slice pa F.A pc] 120 (0, 0)) := HS20.out.get (k := 3) (by simp)
 have x0 := cell_at (j := 0) hX rfl; have x1 := cell_at (j := 1) hX rfl; have x2 := cell_at (j := 2) hX rfl; have y0 := cell_at (j := 0) hY rfl; have y1 := cell_at (j := 1) hY rfl; have y2 := cell_at (j := 2) hY rfl; have y3 := cell_at (j := 3) hY rfl; have y4 := cell_at (j := 4) hY rfl; have y5 := cell_at (j := 5) hY rfl
 clear hX hY
 go_wp2_with (first
  |(refine ord_pure rfl rfl rfl (fun K hK => ?_); go_big_quiet_op; refine hK _ ?_; clear hK K)
  |(refine ord_held rfl rfl rfl (⟨⟨x0, x1, x2⟩, y0, y1, y2, y3, y4, y5⟩) (fun K hK => ?_); apply Exists.intro; refine ⟨fun w' hs => ?_, hK _ ?_⟩; (revert hs; dsimp only; (try simp only [and_imp]); intros; go_simp; rfl); clear hK K)
  |(refine ord_keep rfl rfl (⟨⟨x0, x1, x2⟩, y0, y1, y2, y3, y4, y5⟩) (fun K hK => ?_))
  |(refine ord_drop rfl rfl (fun K hK => ?_))
  |(refine ord_nil ?_))
 have HS21 : Hid (RS w ((((w20).setCell ⟨B, 0, none⟩ (.string ⟨F.nm.toArray⟩)).setCell ⟨B, 1, none⟩ (.int .i64 F.A)).setCell ⟨B, 2, none⟩ (.slice ra F.n rc)) [boxI B #[.string ⟨F.nm.toArray⟩, .int .i64 F.A, .slice ra F.n rc] 86, boxI (B + 1) #[.string ⟨#[]⟩, .int .i64 0, .int .i64 0, .int .i64 0, .int .i64 0, .slice none 0 0] 120, boxI X #[.string ⟨F.nm.toArray⟩, .int .i64 F.A, .slice ra F.n rc] 86, boxI Y #[.string ⟨F.nm.toArray⟩, .int .i64 F.A, .int .i64 F.n, .int .i64 F.ts.length, .int .i64 F.d, .slice pa F.A pc] 120]) := Hi (RS.cell (RS.cell (RS.cell HS20.out (k := 0) (by simp) rfl 0 (.string ⟨F.nm.toArray⟩)) (k := 0) (by simp) rfl 1 (.int .i64 F.A)) (k := 0) (by simp) rfl 2 (.slice ra F.n rc))
 have HM21 := Hi ((((HM20.out).setCell (p := ⟨B, 0, none⟩) (fun _ => .inl rfl) (.string ⟨F.nm.toArray⟩)).setCell (p := ⟨B, 1, none⟩) (fun _ => .inl rfl) (.int .i64 F.A)).setCell (p := ⟨B, 2, none⟩) (fun _ => .inl rfl) (.slice ra F.n rc))
 clear pc0 pf0 pc1 pf1 pc2 pf2 x0 x1 x2 y0 y1 y2 y3 y4 y5 HM20
 generalize (((w20).setCell ⟨B, 0, none⟩ (.string ⟨F.nm.toArray⟩)).setCell ⟨B, 1, none⟩ (.int .i64 F.A)).setCell ⟨B, 2, none⟩ (.slice ra F.n rc) = w21 at *
 have hX : w21.heap[X]? = some (.cells #[.string ⟨F.nm.toArray⟩, .int .i64 F.A, .slice ra F.n rc] 86 (0, 0)) := HS21.out.get (k := 2) (by simp)
 have hY : w21.heap[Y]? = some (.cells #[.string ⟨F.nm.toArray⟩, .int .i64 F.A, .int .i64 F.n, .int .i64 F.ts.length, .int .i64 F.d, .slice pa F.A pc] 120 (0, 0)) := HS21.out.get (k := 3) (by simp)
 have x0 := cell_at (j := 0) hX rfl; have x1 := cell_at (j := 1) hX rfl; have x2 := cell_at (j := 2) hX rfl; have y0 := cell_at (j := 0) hY rfl; have y1 := cell_at (j := 1) hY rfl; have y2 := cell_at (j := 2) hY rfl; have y3 := cell_at (j := 3) hY rfl; have y4 := cell_at (j := 4) hY rfl; have y5 := cell_at (j := 5) hY rfl
 clear hX hY
 refine hK _ _ ⟨⟨x0, x1, x2⟩, y0, y1, y2, y3, y4, y5⟩ ?_
 clear hK K
 have h1 : w21.heap[B + 1]? = some (.cells #[.string ⟨#[]⟩, .int .i64 0, .int .i64 0, .int .i64 0, .int .i64 0, .slice none 0 0] 120 (0, 0)) := HS21.out.get (k := 1) (by simp)
 have qc0 := cell_at (j := 0) h1 rfl; have qf0 := frozen_at (j := 0) h1; have qc1 := cell_at (j := 1) h1 rfl; have qf1 := frozen_at (j := 1) h1; have qc2 := cell_at (j := 2) h1 rfl; have qf2 := frozen_at (j := 2) h1; have qc3 := cell_at (j := 3) h1 rfl; have qf3 := frozen_at (j := 3) h1; have qc4 := cell_at (j := 4) h1 rfl; have qf4 := frozen_at (j := 4) h1; have qc5 := cell_at (j := 5) h1 rfl; have qf5 := frozen_at (j := 5) h1
 clear h1
 go_wp2_with (first
  |(refine ord_pure rfl rfl rfl (fun K hK => ?_); go_big_quiet_op; refine hK _ ?_; clear hK K)
  |(refine ord_held rfl rfl rfl (⟨⟨x0, x1, x2⟩, y0, y1, y2, y3, y4, y5⟩) (fun K hK => ?_); apply Exists.intro; refine ⟨fun w' hs => ?_, hK _ ?_⟩; (revert hs; dsimp only; (try simp only [and_imp]); intros; go_simp; rfl); clear hK K)
  |(refine ord_keep rfl rfl (⟨⟨x0, x1, x2⟩, y0, y1, y2, y3, y4, y5⟩) (fun K hK => ?_))
  |(refine ord_drop rfl rfl (fun K hK => ?_))
  |(refine ord_nil ?_))
 have HS22 : Hid (RS w (((((((w21).setCell ⟨B + 1, 0, none⟩ (.string ⟨F.nm.toArray⟩)).setCell ⟨B + 1, 1, none⟩ (.int .i64 F.A)).setCell ⟨B + 1, 2, none⟩ (.int .i64 F.n)).setCell ⟨B + 1, 3, none⟩ (.int .i64 F.ts.length)).setCell ⟨B + 1, 4, none⟩ (.int .i64 F.d)).setCell ⟨B + 1, 5, none⟩ (.slice pa F.A pc)) [boxI B #[.string ⟨F.nm.toArray⟩, .int .i64 F.A, .slice ra F.n rc] 86, boxI (B + 1) #[.string ⟨F.nm.toArray⟩, .int .i64 F.A, .int .i64 F.n, .int .i64 F.ts.length, .int .i64 F.d, .slice pa F.A pc] 120, boxI X #[.string ⟨F.nm.toArray⟩, .int .i64 F.A, .slice ra F.n rc] 86, boxI Y #[.string ⟨F.nm.toArray⟩, .int .i64 F.A, .int .i64 F.n, .int .i64 F.ts.length, .int .i64 F.d, .slice pa F.A pc] 120]) := Hi (RS.cell (RS.cell (RS.cell (RS.cell (RS.cell (RS.cell HS21.out (k := 1) (by simp) rfl 0 (.string ⟨F.nm.toArray⟩)) (k := 1) (by simp) rfl 1 (.int .i64 F.A)) (k := 1) (by simp) rfl 2 (.int .i64 F.n)) (k := 1) (by simp) rfl 3 (.int .i64 F.ts.length)) (k := 1) (by simp) rfl 4 (.int .i64 F.d)) (k := 1) (by simp) rfl 5 (.slice pa F.A pc))
 have HM22 := Hi (((((((HM21.out).setCell (p := ⟨B + 1, 0, none⟩) (fun _ => .inr rfl) (.string ⟨F.nm.toArray⟩)).setCell (p := ⟨B + 1, 1, none⟩) (fun _ => .inr rfl) (.int .i64 F.A)).setCell (p := ⟨B + 1, 2, none⟩) (fun _ => .inr rfl) (.int .i64 F.n)).setCell (p := ⟨B + 1, 3, none⟩) (fun _ => .inr rfl) (.int .i64 F.ts.length)).setCell (p := ⟨B + 1, 4, none⟩) (fun _ => .inr rfl) (.int .i64 F.d)).setCell (p := ⟨B + 1, 5, none⟩) (fun _ => .inr rfl) (.slice pa F.A pc))
 clear qc0 qf0 qc1 qf1 qc2 qf2 qc3 qf3 qc4 qf4 qc5 qf5 x0 x1 x2 y0 y1 y2 y3 y4 y5 HM21
 generalize ((((((w21).setCell ⟨B + 1, 0, none⟩ (.string ⟨F.nm.toArray⟩)).setCell ⟨B + 1, 1, none⟩ (.int .i64 F.A)).setCell ⟨B + 1, 2, none⟩ (.int .i64 F.n)).setCell ⟨B + 1, 3, none⟩ (.int .i64 F.ts.length)).setCell ⟨B + 1, 4, none⟩ (.int .i64 F.d)).setCell ⟨B + 1, 5, none⟩ (.slice pa F.A pc) = wz at *
 have h0 : wz.heap[B]? = some (.cells #[.string ⟨F.nm.toArray⟩, .int .i64 F.A, .slice ra F.n rc] 86 (0, 0)) := HS22.out.get (k := 0) (by simp)
 have h1 : wz.heap[B + 1]? = some (.cells #[.string ⟨F.nm.toArray⟩, .int .i64 F.A, .int .i64 F.n, .int .i64 F.ts.length, .int .i64 F.d, .slice pa F.A pc] 120 (0, 0)) := HS22.out.get (k := 1) (by simp)
 have pc0 := cell_at (j := 0) h0 rfl; have pf0 := frozen_at (j := 0) h0; have pc1 := cell_at (j := 1) h0 rfl; have pf1 := frozen_at (j := 1) h0; have pc2 := cell_at (j := 2) h0 rfl; have pf2 := frozen_at (j := 2) h0; have qc0 := cell_at (j := 0) h1 rfl; have qf0 := frozen_at (j := 0) h1; have qc1 := cell_at (j := 1) h1 rfl; have qf1 := frozen_at (j := 1) h1; have qc2 := cell_at (j := 2) h1 rfl; have qf2 := frozen_at (j := 2) h1; have qc3 := cell_at (j := 3) h1 rfl; have qf3 := frozen_at (j := 3) h1; have qc4 := cell_at (j := 4) h1 rfl; have qf4 := frozen_at (j := 4) h1; have qc5 := cell_at (j := 5) h1 rfl; have qf5 := frozen_at (j := 5) h1
 have hlast : GPost l w (.returned (.tuple #[.agg #[.string ⟨F.nm.toArray⟩, .int .i64 F.A, .slice ra F.n rc], .agg #[.string ⟨F.nm.toArray⟩, .int .i64 F.A, .int .i64 F.n, .int .i64 F.ts.length, .int .i64 F.d, .slice pa F.A pc], .int .i64 0])) wz := ⟨.inr ⟨F, ra, rc, pa, pc, ⟨HH.out, HPA.out, HFI.out⟩, rfl, ⟨hs, HRL.out.close HMW4.out ((HM7.out.mono fun _ _ e => e.elim).trans HM22.out) (fun b hb => hb) (fun b hb => by have h1 := HB.out; have h2 := HB4.out; rcases hb with rfl | rfl <;> omega)⟩, HRP.out.mod HM22.out (fun b hb e => by have h1 := HPF.out b hb; have h2 := HXB.out; rcases e with rfl | rfl <;> omega), fun b hb => by have h1 := HPF.out b hb; have h2 := HXB.out; have h3 := HB.out; omega⟩, HS22.out.md⟩
 refine bodyPost_ret (v := .tuple #[.agg #[.string ⟨F.nm.toArray⟩, .int .i64 F.A, .slice ra F.n rc], .agg #[.string ⟨F.nm.toArray⟩, .int .i64 F.A, .int .i64 F.n, .int .i64 F.ts.length, .int .i64 F.d, .slice pa F.A pc], .int .i64 0]) ?_ rfl hlast
 clear hlast
 simp [results, Tryz.results79, go_sem, pc0, pc1, pc2, qc0, qc1, qc2, qc3, qc4, qc5]
end Go.Proofs.YtjoiaejbahdjkaaGreat
