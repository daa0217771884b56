/-
  A file's head and its bytes: the plain law.
-/
import Derived.Test.YtelfakglaghfoaaGreatDocG
import Derived.Test.YtelfakglaghfoaaGreatDocH
import Derived.Test.YtelfakglaghfoaaGreatFgC
import Derived.Test.YtelfakglaghfoaaGreatFgB
import Derived.Deep.CutRange
import Derived.Test.YtelfakglaghfoaaGreatRows
import Derived.Test.YtelfakglaghfoaaGreatBase
import Derived.ProofKit
import Derived.OpenShut
import Derived.JoinedCond
import Derived.SliceStrings
namespace Go.Proofs.YtelfakglaghfoaaGreat
open Go Go.RowKit Go.Mine
set_option linter.unusedVariables false

theorem fourL_len (n : Nat) : (fourL n).length = 4 := rfl
theorem headB_len (x : List UInt8) : (headB x).length = 10 + x.length := by
  unfold headB
  rw [List.length_append, List.length_append, fourL_len]; rfl
theorem fileL_len (x : List UInt8) : (fileL x).length = 14 + x.length := by
  unfold fileL
  rw [List.length_append, headB_len, fourL_len]; omega
theorem mid_file (x : List UInt8) : midL (fileL x) = x := by
  unfold midL
  rw [fileL_len, show 14 + x.length - 14 = x.length by omega]
  have h1 : fileL x = (magicL ++ fourL (14 + x.length)) ++ (x ++ fourL (crcL (headB x))) := by unfold fileL headB; simp only [List.append_assoc]
  have h2 : (magicL ++ fourL (14 + x.length)).length = 10 := rfl
  rw [h1, List.drop_append_of_le_length (by omega), List.drop_of_length_le (by omega), List.nil_append, List.take_left]
theorem four_size (l : List UInt8) (h : 10 ≤ l.length) : fourL (sizeF l) = (l.drop 6).take 4 := by
  have e : (l.drop 6).take 4 = [l.getD 6 0, l.getD 7 0, l.getD 8 0, l.getD 9 0] := by
    refine List.ext_getElem (by simp; omega) fun i h1 h2 => ?_
    rw [List.getElem_take, List.getElem_drop]
    have hi : i < 4 := h2
    match i, hi with
    | 0, _ => simp [List.getD_eq_getElem?_getD, show 6 < l.length by omega]
    | 1, _ => simp [List.getD_eq_getElem?_getD, show 7 < l.length by omega]
    | 2, _ => simp [List.getD_eq_getElem?_getD, show 8 < l.length by omega]
    | 3, _ => simp [List.getD_eq_getElem?_getD, show 9 < l.length by omega]
  rw [e]
  unfold fourL sizeF
  have a6 := (l.getD 6 0).toNat_lt; have a7 := (l.getD 7 0).toNat_lt; have a8 := (l.getD 8 0).toNat_lt; have a9 := (l.getD 9 0).toNat_lt
  have k : ∀ (x : UInt8) (n : Nat), n = x.toNat → UInt8.ofNat n = x := fun x n h => by rw [h, UInt8.ofNat_toNat]
  rw [k (l.getD 6 0) _ (by omega), k (l.getD 7 0) _ (by omega), k (l.getD 8 0) _ (by omega), k (l.getD 9 0) _ (by omega)]
structure HeadOk (l : List UInt8) : Prop where
  le : l.length ≤ 16777216
  ge : 14 ≤ l.length
  magic : l.take 6 = magicL
  size : sizeF l = l.length
  sum : l.drop (l.length - 4) = fourL (crcL (l.take (l.length - 4)))
theorem head_ok {l : List UInt8} (h : headF l = 0) : HeadOk l := by
  unfold headF at h
  split at h
  · cases h
  · rename_i h1
    split at h
    · cases h
    · rename_i h2
      split at h
      · cases h
      · rename_i h3
        split at h
        · cases h
        · rename_i h4
          exact ⟨by omega, by omega, Classical.byContradiction fun e => h2 (.inr e), Classical.byContradiction fun e => h3 e, Classical.byContradiction fun e => h4 e⟩
theorem mid_len {l : List UInt8} : (midL l).length = l.length - 14 := by unfold midL; rw [List.length_take, List.length_drop]; omega
theorem head_file {l : List UInt8} (h : headF l = 0) : fileL (midL l) = l := by
  have H := head_ok h
  have hge := H.ge
  have e1 : headB (midL l) = l.take (l.length - 4) := by
    unfold headB
    rw [mid_len, show 14 + (l.length - 14) = l.length by omega, ← H.magic]
    have e2 := four_size l (by omega)
    rw [H.size] at e2
    rw [e2]
    unfold midL
    have e3 : l.take (l.length - 4) = l.take 6 ++ ((l.drop 6).take 4 ++ (l.drop 10).take (l.length - 14)) := by
      have s1 : l.take (l.length - 4) = (l.take (l.length - 4)).take 6 ++ ((l.take (l.length - 4)).drop 6) := (List.take_append_drop _ _).symm
      rw [List.take_take, show min 6 (l.length - 4) = 6 by omega, List.drop_take] at s1
      have s2 : (l.drop 6).take (l.length - 4 - 6) = ((l.drop 6).take (l.length - 4 - 6)).take 4 ++ ((l.drop 6).take (l.length - 4 - 6)).drop 4 := (List.take_append_drop _ _).symm
      rw [List.take_take, show min 4 (l.length - 4 - 6) = 4 by omega, List.drop_take, List.drop_drop, show l.length - 4 - 6 - 4 = l.length - 14 by omega] at s2
      rw [s1, s2]
    rw [e3, List.append_assoc]
  unfold fileL
  rw [e1, ← H.sum, List.take_append_drop]
theorem file_iff {l x : List UInt8} (h : headF l = 0) : fileL x = l ↔ x = midL l := by
  constructor
  · intro e; rw [← e, mid_file]
  · intro e; rw [e]; exact head_file h
end Go.Proofs.YtelfakglaghfoaaGreat
/-
  The document's Read: walked.
-/
namespace Go.Proofs.YtelfakglaghfoaaGreat
open Go Go.RowKit Go.Mine
set_option linter.unusedVariables false
set_option maxHeartbeats 8000000
set_option maxRecDepth 100000

theorem ba_list (x : List UInt8) : (⟨x.toArray⟩ : ByteArray).data.toList = x := by simp
theorem not_big {l : List UInt8} {F : Fil} (h : headF l = 0) (hP : Parse (midL l) F) (hF : Fine (midL l) F) : ¬ (16777216 < sumL (textsL (riseG belowL (rowsF F.ts F.cs F.n))) ∨ 16777216 < 14 + (bodyL F.nm F.A (rowsF F.ts F.cs F.n)).length) := by
  obtain ⟨e1, e2, e3, e4⟩ := fine_of hP hF
  have H := head_ok h
  have h1 := H.le
  have h2 := H.ge
  rw [e4, e1, e2, mid_len]
  have h3 := sumL_le F.ts
  have h4 := hP.facts.dle
  have h5 := hP.facts.d
  rw [mid_len] at h4
  unfold pgBytes at h5
  rw [List.length_append] at h5
  omega
theorem rel_ok {m : List UInt8} {F : Fil} {w0 w : World} {ra : Option Addr} {rc : Nat} {hs : List Value} {G : Nat → Prop} (hP : Parse m F) (hB : Bounds F.ts.length F.cs) (h : LL G w0 w 52 ra rc hs ((rowsF F.ts F.cs F.n).map sts)) : RelI w ⟨F.nm.toArray⟩ F.A ra rc hs (rowsF F.ts F.cs F.n) := by
  have K := hP.facts
  refine ⟨h.rd, fun r hr => ?_, hP.arl, by rw [ba_size]; exact K.nml, fun r hr s hs => ?_, by rw [rowsF_length]; exact hP.nrl, ?_⟩
  · obtain ⟨i, _, rfl⟩ := List.mem_map.1 hr
    rw [rowF_len, K.len]
  · have hm := (mem_rows hB (fun c hc => (K.col c hc).2) s).1 (List.mem_flatten.2 ⟨r, hr, hs⟩)
    obtain ⟨j, hj, _, rfl⟩ := hm
    exact K.sz _ (List.getElem_mem hj)
  · have h1 := h.own
    rw [List.length_map] at h1
    rcases h1.2 with ⟨_, h2, h3⟩ | ⟨_, _, _, _, h2, _⟩
    · omega
    · exact h2
theorem refRead7_any (a : Option Addr) (c : Nat) (l : List UInt8) (w : World) (hr : Rd w a (bts l)) (hc : l.length ≤ c) (hl : l.length < 2 ^ 40) :
    Calls Tryz.prog 7 #[.slice a l.length c] w (GPost l w) := by
  have HR := Lib.hid hr
  clear hr
  have HS0 : Hid (RS w ((w.alloc (.cells #[.string ⟨#[]⟩, .int .i64 0, .slice none 0 0] 26)).alloc (.cells #[.string ⟨#[]⟩, .int .i64 0, .int .i64 0, .int .i64 0, .int .i64 0, .slice none 0 0] 35)) [boxI w.heap.size #[.string ⟨#[]⟩, .int .i64 0, .slice none 0 0] 26, boxI (w.heap.size + 1) #[.string ⟨#[]⟩, .int .i64 0, .int .i64 0, .int .i64 0, .int .i64 0, .slice none 0 0] 35]) := Lib.hid (by
    have h0 : RS w w [] := ⟨Fam.nil (Nat.le_refl _), Mod.refl _ _⟩
    have h1 := h0.push (i' := boxI w.heap.size #[.string ⟨#[]⟩, .int .i64 0, .slice none 0 0] 26) ((Mod.refl _ w).alloc (.cells #[.string ⟨#[]⟩, .int .i64 0, .slice none 0 0] 26)) (heap_alloc_new w _) (fun b hb => Nat.le_of_eq (Eq.symm hb))
    have e1 : (w.alloc (.cells #[.string ⟨#[]⟩, .int .i64 0, .slice none 0 0] 26)).heap.size = w.heap.size + 1 := by simp
    exact h1.push (i' := boxI (w.heap.size + 1) #[.string ⟨#[]⟩, .int .i64 0, .int .i64 0, .int .i64 0, .int .i64 0, .slice none 0 0] 35) ((Mod.refl _ _).alloc (.cells #[.string ⟨#[]⟩, .int .i64 0, .int .i64 0, .int .i64 0, .int .i64 0, .slice none 0 0] 35)) (by have h := heap_alloc_new (w.alloc (.cells #[.string ⟨#[]⟩, .int .i64 0, .slice none 0 0] 26)) (.cells #[.string ⟨#[]⟩, .int .i64 0, .int .i64 0, .int .i64 0, .int .i64 0, .slice none 0 0] 35); rw [e1] at h; exact h) (fun b hb => Nat.le_of_eq (by rw [e1]; exact Eq.symm hb)))
  go_enter Tryz.func7, Tryz.ntmps7
  obtain ⟨B, hB⟩ : ∃ B, B = w.heap.size := ⟨_, rfl⟩
  go_upto_region 1 with fail
  rw [← hB] at HS0 ⊢
  have HB := Lib.hid hB
  clear hB
  generalize (w.alloc (.cells #[.string ⟨#[]⟩, .int .i64 0, .slice none 0 0] 26)).alloc (.cells #[.string ⟨#[]⟩, .int .i64 0, .int .i64 0, .int .i64 0, .int .i64 0, .slice none 0 0] 35) = w1 at *
  have h0 : w1.heap[B]? = some (.cells #[.string ⟨#[]⟩, .int .i64 0, .slice none 0 0] 26 (0, 0)) := HS0.out.get (k := 0) (by simp)
  have h1 : w1.heap[B + 1]? = some (.cells #[.string ⟨#[]⟩, .int .i64 0, .int .i64 0, .int .i64 0, .int .i64 0, .slice none 0 0] 35 (0, 0)) := HS0.out.get (k := 1) (by simp)
  have pc0 := cell_at (j := 0) h0 rfl; have pf0 := frozen_at (j := 0) h0; have pc1 := cell_at (j := 1) h0 rfl; have pf1 := frozen_at (j := 1) h0; have pc2 := cell_at (j := 2) h0 rfl; have pf2 := frozen_at (j := 2) h0
  have qc0 := cell_at (j := 0) h1 rfl; have qf0 := frozen_at (j := 0) h1; have qc1 := cell_at (j := 1) h1 rfl; have qf1 := frozen_at (j := 1) h1; have qc2 := cell_at (j := 2) h1 rfl; have qf2 := frozen_at (j := 2) h1; have qc3 := cell_at (j := 3) h1 rfl; have qf3 := frozen_at (j := 3) h1; have qc4 := cell_at (j := 4) h1 rfl; have qf4 := frozen_at (j := 4) h1; have qc5 := cell_at (j := 5) h1 rfl; have qf5 := frozen_at (j := 5) h1
  clear h0 h1
  by_cases h16 : 16777216 < l.length
  · have HH : Hid (headF l = 3) := Lib.hid (by unfold headF; rw [if_pos h16])
    go_wp2_with fail
    have HSZ : Hid (RS w ((((((((((w1).setCell ⟨B, 0, none⟩ (.string ⟨#[]⟩)).setCell ⟨B, 1, none⟩ (.int .i64 0)).setCell ⟨B, 2, none⟩ (.slice none 0 0)).setCell ⟨B + 1, 0, none⟩ (.string ⟨#[]⟩)).setCell ⟨B + 1, 1, none⟩ (.int .i64 0)).setCell ⟨B + 1, 2, none⟩ (.int .i64 0)).setCell ⟨B + 1, 3, none⟩ (.int .i64 0)).setCell ⟨B + 1, 4, none⟩ (.int .i64 0)).setCell ⟨B + 1, 5, none⟩ (.slice none 0 0)) [boxI B #[.string ⟨#[]⟩, .int .i64 0, .slice none 0 0] 26, boxI (B + 1) #[.string ⟨#[]⟩, .int .i64 0, .int .i64 0, .int .i64 0, .int .i64 0, .slice none 0 0] 35]) := Lib.hid (RS.cell (RS.cell (RS.cell (RS.cell (RS.cell (RS.cell (RS.cell (RS.cell (RS.cell HS0.out (k := 0) (by simp) rfl 0 (.string ⟨#[]⟩)) (k := 0) (by simp) rfl 1 (.int .i64 0)) (k := 0) (by simp) rfl 2 (.slice none 0 0)) (k := 1) (by simp) rfl 0 (.string ⟨#[]⟩)) (k := 1) (by simp) rfl 1 (.int .i64 0)) (k := 1) (by simp) rfl 2 (.int .i64 0)) (k := 1) (by simp) rfl 3 (.int .i64 0)) (k := 1) (by simp) rfl 4 (.int .i64 0)) (k := 1) (by simp) rfl 5 (.slice none 0 0))
    clear pc0 pf0 pc1 pf1 pc2 pf2 qc0 qf0 qc1 qf1 qc2 qf2 qc3 qf3 qc4 qf4 qc5 qf5
    generalize (((((((((w1).setCell ⟨B, 0, none⟩ (.string ⟨#[]⟩)).setCell ⟨B, 1, none⟩ (.int .i64 0)).setCell ⟨B, 2, none⟩ (.slice none 0 0)).setCell ⟨B + 1, 0, none⟩ (.string ⟨#[]⟩)).setCell ⟨B + 1, 1, none⟩ (.int .i64 0)).setCell ⟨B + 1, 2, none⟩ (.int .i64 0)).setCell ⟨B + 1, 3, none⟩ (.int .i64 0)).setCell ⟨B + 1, 4, none⟩ (.int .i64 0)).setCell ⟨B + 1, 5, none⟩ (.slice none 0 0) = wz at *
    have h0 : wz.heap[B]? = some (.cells #[.string ⟨#[]⟩, .int .i64 0, .slice none 0 0] 26 (0, 0)) := HSZ.out.get (k := 0) (by simp)
    have h1 : wz.heap[B + 1]? = some (.cells #[.string ⟨#[]⟩, .int .i64 0, .int .i64 0, .int .i64 0, .int .i64 0, .slice none 0 0] 35 (0, 0)) := HSZ.out.get (k := 1) (by simp)
    have pc0 := cell_at (j := 0) h0 rfl; have pf0 := frozen_at (j := 0) h0; have pc1 := cell_at (j := 1) h0 rfl; have pf1 := frozen_at (j := 1) h0; have pc2 := cell_at (j := 2) h0 rfl; have pf2 := frozen_at (j := 2) h0
    have qc0 := cell_at (j := 0) h1 rfl; have qf0 := frozen_at (j := 0) h1; have qc1 := cell_at (j := 1) h1 rfl; have qf1 := frozen_at (j := 1) h1; have qc2 := cell_at (j := 2) h1 rfl; have qf2 := frozen_at (j := 2) h1; have qc3 := cell_at (j := 3) h1 rfl; have qf3 := frozen_at (j := 3) h1; have qc4 := cell_at (j := 4) h1 rfl; have qf4 := frozen_at (j := 4) h1; have qc5 := cell_at (j := 5) h1 rfl; have qf5 := frozen_at (j := 5) h1
    have hlast : GPost l w (.returned (.tuple #[.agg #[.string ⟨#[]⟩, .int .i64 0, .slice none 0 0], .agg #[.string ⟨#[]⟩, .int .i64 0, .int .i64 0, .int .i64 0, .int .i64 0, .slice none 0 0], .int .i64 3])) wz := ⟨.inl ⟨3, .inl ⟨by rw [HH.out]; omega, HH.out.symm⟩, rfl⟩, HSZ.out.md⟩
    refine bodyPost_ret (v := .tuple #[.agg #[.string ⟨#[]⟩, .int .i64 0, .slice none 0 0], .agg #[.string ⟨#[]⟩, .int .i64 0, .int .i64 0, .int .i64 0, .int .i64 0, .slice none 0 0], .int .i64 3]) ?_ rfl hlast
    clear hlast
    simp [results, Tryz.results7, go_sem, pc0, pc1, pc2, qc0, qc1, qc2, qc3, qc4, qc5]
  by_cases h14 : l.length < 14
  · have HH : Hid (headF l = 70) := Lib.hid (by unfold headF; rw [if_neg h16, if_pos (.inl h14)])
    go_wp2_with fail
    have HSZ : Hid (RS w ((((((((((w1).setCell ⟨B, 0, none⟩ (.string ⟨#[]⟩)).setCell ⟨B, 1, none⟩ (.int .i64 0)).setCell ⟨B, 2, none⟩ (.slice none 0 0)).setCell ⟨B + 1, 0, none⟩ (.string ⟨#[]⟩)).setCell ⟨B + 1, 1, none⟩ (.int .i64 0)).setCell ⟨B + 1, 2, none⟩ (.int .i64 0)).setCell ⟨B + 1, 3, none⟩ (.int .i64 0)).setCell ⟨B + 1, 4, none⟩ (.int .i64 0)).setCell ⟨B + 1, 5, none⟩ (.slice none 0 0)) [boxI B #[.string ⟨#[]⟩, .int .i64 0, .slice none 0 0] 26, boxI (B + 1) #[.string ⟨#[]⟩, .int .i64 0, .int .i64 0, .int .i64 0, .int .i64 0, .slice none 0 0] 35]) := Lib.hid (RS.cell (RS.cell (RS.cell (RS.cell (RS.cell (RS.cell (RS.cell (RS.cell (RS.cell HS0.out (k := 0) (by simp) rfl 0 (.string ⟨#[]⟩)) (k := 0) (by simp) rfl 1 (.int .i64 0)) (k := 0) (by simp) rfl 2 (.slice none 0 0)) (k := 1) (by simp) rfl 0 (.string ⟨#[]⟩)) (k := 1) (by simp) rfl 1 (.int .i64 0)) (k := 1) (by simp) rfl 2 (.int .i64 0)) (k := 1) (by simp) rfl 3 (.int .i64 0)) (k := 1) (by simp) rfl 4 (.int .i64 0)) (k := 1) (by simp) rfl 5 (.slice none 0 0))
    clear pc0 pf0 pc1 pf1 pc2 pf2 qc0 qf0 qc1 qf1 qc2 qf2 qc3 qf3 qc4 qf4 qc5 qf5
    generalize (((((((((w1).setCell ⟨B, 0, none⟩ (.string ⟨#[]⟩)).setCell ⟨B, 1, none⟩ (.int .i64 0)).setCell ⟨B, 2, none⟩ (.slice none 0 0)).setCell ⟨B + 1, 0, none⟩ (.string ⟨#[]⟩)).setCell ⟨B + 1, 1, none⟩ (.int .i64 0)).setCell ⟨B + 1, 2, none⟩ (.int .i64 0)).setCell ⟨B + 1, 3, none⟩ (.int .i64 0)).setCell ⟨B + 1, 4, none⟩ (.int .i64 0)).setCell ⟨B + 1, 5, none⟩ (.slice none 0 0) = wz at *
    have h0 : wz.heap[B]? = some (.cells #[.string ⟨#[]⟩, .int .i64 0, .slice none 0 0] 26 (0, 0)) := HSZ.out.get (k := 0) (by simp)
    have h1 : wz.heap[B + 1]? = some (.cells #[.string ⟨#[]⟩, .int .i64 0, .int .i64 0, .int .i64 0, .int .i64 0, .slice none 0 0] 35 (0, 0)) := HSZ.out.get (k := 1) (by simp)
    have pc0 := cell_at (j := 0) h0 rfl; have pf0 := frozen_at (j := 0) h0; have pc1 := cell_at (j := 1) h0 rfl; have pf1 := frozen_at (j := 1) h0; have pc2 := cell_at (j := 2) h0 rfl; have pf2 := frozen_at (j := 2) h0
    have qc0 := cell_at (j := 0) h1 rfl; have qf0 := frozen_at (j := 0) h1; have qc1 := cell_at (j := 1) h1 rfl; have qf1 := frozen_at (j := 1) h1; have qc2 := cell_at (j := 2) h1 rfl; have qf2 := frozen_at (j := 2) h1; have qc3 := cell_at (j := 3) h1 rfl; have qf3 := frozen_at (j := 3) h1; have qc4 := cell_at (j := 4) h1 rfl; have qf4 := frozen_at (j := 4) h1; have qc5 := cell_at (j := 5) h1 rfl; have qf5 := frozen_at (j := 5) h1
    have hlast : GPost l w (.returned (.tuple #[.agg #[.string ⟨#[]⟩, .int .i64 0, .slice none 0 0], .agg #[.string ⟨#[]⟩, .int .i64 0, .int .i64 0, .int .i64 0, .int .i64 0, .slice none 0 0], .int .i64 70])) wz := ⟨.inl ⟨70, .inl ⟨by rw [HH.out]; omega, HH.out.symm⟩, rfl⟩, HSZ.out.md⟩
    refine bodyPost_ret (v := .tuple #[.agg #[.string ⟨#[]⟩, .int .i64 0, .slice none 0 0], .agg #[.string ⟨#[]⟩, .int .i64 0, .int .i64 0, .int .i64 0, .int .i64 0, .slice none 0 0], .int .i64 70]) ?_ rfl hlast
    clear hlast
    simp [results, Tryz.results7, go_sem, pc0, pc1, pc2, qc0, qc1, qc2, qc3, qc4, qc5]
  obtain ⟨bb, bo, rfl, _⟩ := byte_cell HR.out (i := 0) (by omega)
  have HR1 := Lib.hid (HR.out.mod HS0.out.md fun _ _ => id)
  have hcv6 : ∀ W, Mod (fun _ => False) w1 W → (convert 22 9 (.slice (some ⟨bb, bo, none⟩) 6 c)).run Tryz.prog W = .ok (.string ⟨(l.take 6).toArray⟩) W := fun W mW => by
    have h1 := (HR1.out.mod mW fun _ _ => id).take 6
    rw [bts, ← List.map_take] at h1
    have h2 := run_bytes24 (some ⟨bb, bo, none⟩) (l.take 6) c W h1
    rwa [List.length_take, show min 6 l.length = 6 by omega] at h2
  have hcv := hcv6 w1 (Mod.refl _ _)
  by_cases hmg : l.take 6 = magicL
  rotate_left
  · have HH : Hid (headF l = 70) := Lib.hid (by unfold headF; rw [if_neg h16, if_pos (.inr hmg)])
    have heq : (l.take 6 == [115, 105, 98, 121, 108, 1]) = false := by simpa [magicL] using hmg
    have HMG := Lib.hid hmg
    have hd14 : decide ((l.length : Int) < 14) = false := by simp; omega
    clear hmg hcv6
    generalize l.take 6 = l6 at *
    go_wp2_with fail
    have HSZ : Hid (RS w ((((((((((w1).setCell ⟨B, 0, none⟩ (.string ⟨#[]⟩)).setCell ⟨B, 1, none⟩ (.int .i64 0)).setCell ⟨B, 2, none⟩ (.slice none 0 0)).setCell ⟨B + 1, 0, none⟩ (.string ⟨#[]⟩)).setCell ⟨B + 1, 1, none⟩ (.int .i64 0)).setCell ⟨B + 1, 2, none⟩ (.int .i64 0)).setCell ⟨B + 1, 3, none⟩ (.int .i64 0)).setCell ⟨B + 1, 4, none⟩ (.int .i64 0)).setCell ⟨B + 1, 5, none⟩ (.slice none 0 0)) [boxI B #[.string ⟨#[]⟩, .int .i64 0, .slice none 0 0] 26, boxI (B + 1) #[.string ⟨#[]⟩, .int .i64 0, .int .i64 0, .int .i64 0, .int .i64 0, .slice none 0 0] 35]) := Lib.hid (RS.cell (RS.cell (RS.cell (RS.cell (RS.cell (RS.cell (RS.cell (RS.cell (RS.cell HS0.out (k := 0) (by simp) rfl 0 (.string ⟨#[]⟩)) (k := 0) (by simp) rfl 1 (.int .i64 0)) (k := 0) (by simp) rfl 2 (.slice none 0 0)) (k := 1) (by simp) rfl 0 (.string ⟨#[]⟩)) (k := 1) (by simp) rfl 1 (.int .i64 0)) (k := 1) (by simp) rfl 2 (.int .i64 0)) (k := 1) (by simp) rfl 3 (.int .i64 0)) (k := 1) (by simp) rfl 4 (.int .i64 0)) (k := 1) (by simp) rfl 5 (.slice none 0 0))
    clear pc0 pf0 pc1 pf1 pc2 pf2 qc0 qf0 qc1 qf1 qc2 qf2 qc3 qf3 qc4 qf4 qc5 qf5
    generalize (((((((((w1).setCell ⟨B, 0, none⟩ (.string ⟨#[]⟩)).setCell ⟨B, 1, none⟩ (.int .i64 0)).setCell ⟨B, 2, none⟩ (.slice none 0 0)).setCell ⟨B + 1, 0, none⟩ (.string ⟨#[]⟩)).setCell ⟨B + 1, 1, none⟩ (.int .i64 0)).setCell ⟨B + 1, 2, none⟩ (.int .i64 0)).setCell ⟨B + 1, 3, none⟩ (.int .i64 0)).setCell ⟨B + 1, 4, none⟩ (.int .i64 0)).setCell ⟨B + 1, 5, none⟩ (.slice none 0 0) = wz at *
    have h0 : wz.heap[B]? = some (.cells #[.string ⟨#[]⟩, .int .i64 0, .slice none 0 0] 26 (0, 0)) := HSZ.out.get (k := 0) (by simp)
    have h1 : wz.heap[B + 1]? = some (.cells #[.string ⟨#[]⟩, .int .i64 0, .int .i64 0, .int .i64 0, .int .i64 0, .slice none 0 0] 35 (0, 0)) := HSZ.out.get (k := 1) (by simp)
    have pc0 := cell_at (j := 0) h0 rfl; have pf0 := frozen_at (j := 0) h0; have pc1 := cell_at (j := 1) h0 rfl; have pf1 := frozen_at (j := 1) h0; have pc2 := cell_at (j := 2) h0 rfl; have pf2 := frozen_at (j := 2) h0
    have qc0 := cell_at (j := 0) h1 rfl; have qf0 := frozen_at (j := 0) h1; have qc1 := cell_at (j := 1) h1 rfl; have qf1 := frozen_at (j := 1) h1; have qc2 := cell_at (j := 2) h1 rfl; have qf2 := frozen_at (j := 2) h1; have qc3 := cell_at (j := 3) h1 rfl; have qf3 := frozen_at (j := 3) h1; have qc4 := cell_at (j := 4) h1 rfl; have qf4 := frozen_at (j := 4) h1; have qc5 := cell_at (j := 5) h1 rfl; have qf5 := frozen_at (j := 5) h1
    have hlast : GPost l w (.returned (.tuple #[.agg #[.string ⟨#[]⟩, .int .i64 0, .slice none 0 0], .agg #[.string ⟨#[]⟩, .int .i64 0, .int .i64 0, .int .i64 0, .int .i64 0, .slice none 0 0], .int .i64 70])) wz := ⟨.inl ⟨70, .inl ⟨by rw [HH.out]; omega, HH.out.symm⟩, rfl⟩, HSZ.out.md⟩
    refine bodyPost_ret (v := .tuple #[.agg #[.string ⟨#[]⟩, .int .i64 0, .slice none 0 0], .agg #[.string ⟨#[]⟩, .int .i64 0, .int .i64 0, .int .i64 0, .int .i64 0, .slice none 0 0], .int .i64 70]) ?_ rfl hlast
    clear hlast
    simp [results, Tryz.results7, go_sem, pc0, pc1, pc2, qc0, qc1, qc2, qc3, qc4, qc5]
  have heq : (l.take 6 == [115, 105, 98, 121, 108, 1]) = true := by rw [hmg]; rfl
  have HMG := Lib.hid hmg
  have hd14 : decide ((l.length : Int) < 14) = false := by simp; omega
  clear hmg hcv6
  have hcell : ∀ j, j < l.length → w1.cell? ⟨bb, bo + j, none⟩ = some (.int .u8 ((l.getD j 0).toNat : Nat)) := fun j hj => by
    obtain ⟨b2, o2, e2, h2⟩ := byte_cell HR1.out hj
    cases e2
    rw [h2, List.getD_eq_getElem?_getD, List.getElem?_eq_getElem hj]; rfl
  have k6 := hcell 6 (by omega); have k7 := hcell 7 (by omega); have k8 := hcell 8 (by omega); have k9 := hcell 9 (by omega)
  have HSF : Hid (sizeF l = (l.getD 6 0).toNat + 256 * (l.getD 7 0).toNat + 65536 * (l.getD 8 0).toNat + 16777216 * (l.getD 9 0).toNat) := Lib.hid rfl
  have t6 := (l.getD 6 0).toNat_lt; have t7 := (l.getD 7 0).toNat_lt; have t8 := (l.getD 8 0).toNat_lt; have t9 := (l.getD 9 0).toNat_lt
  generalize (l.getD 6 0).toNat = n6 at *
  generalize (l.getD 7 0).toNat = n7 at *
  generalize (l.getD 8 0).toNat = n8 at *
  generalize (l.getD 9 0).toNat = n9 at *
  have m6 : 6 < l.length := by omega
  have m7 : 7 < l.length := by omega
  have m8 : 8 < l.length := by omega
  have m9 : 9 < l.length := by omega
  obtain ⟨l6, hl6⟩ : ∃ l6, l6 = l.take 6 := ⟨_, rfl⟩
  rw [← hl6] at heq hcv
  clear hl6 hcell
  go_wp2_with fail
  refine wp_region_ord (fun w' => w'.cell? ⟨bb, bo + 6, none⟩ = some (.int .u8 (n6 : Nat)) ∧ w'.cell? ⟨bb, bo + 7, none⟩ = some (.int .u8 (n7 : Nat)) ∧ w'.cell? ⟨bb, bo + 8, none⟩ = some (.int .u8 (n8 : Nat)) ∧ w'.cell? ⟨bb, bo + 9, none⟩ = some (.int .u8 (n9 : Nat))) [(0, 0), (0, 1), (1, 2), (0, 3), (0, 4), (0, 5), (1, 6), (0, 7), (0, 8), (0, 9), (0, 10), (0, 11), (1, 12), (0, 13), (0, 14), (0, 15), (0, 16), (0, 17), (1, 18), (0, 19), (0, 20), (0, 21), (0, 22)] (by kernel_rfl) (by kernel_rfl) ?_
  have HS1 := Lib.hid (HS0.out.mod0 (w' := w1.drew) ((Mod.refl _ w1).drew))
  have HR2 := Lib.hid (HR1.out.mod ((Mod.refl (fun _ => False) w1).drew) fun _ _ => id)
  have md := (Mod.refl (fun _ => False) w1).drew
  have j6 := md.cell k6 id; have j7 := md.cell k7 id; have j8 := md.cell k8 id; have j9 := md.cell k9 id
  clear md k6 k7 k8 k9 HS0 HR1 hcv heq pc0 pf0 pc1 pf1 pc2 pf2 qc0 qf0 qc1 qf1 qc2 qf2 qc3 qf3 qc4 qf4 qc5 qf5
  generalize w1.drew = w2 at *
  go_upto_region 6 with (first
    | (refine ord_pure rfl rfl rfl (fun K hK => ?_); go_big_quiet_op; refine hK _ ?_; clear hK K)
                                                                | (refine ord_skip rfl rfl ?_; simp only [Act.put, List.setIfInBounds_toArray, List.set_cons_zero, List.set_cons_succ])
                                                                | (refine ord_held rfl rfl rfl (⟨j6, j7, j8, j9⟩) (fun K hK => ?_); apply Exists.intro; refine ⟨fun w' hs => ?_, hK _ ?_⟩; (revert hs; dsimp only; (try simp only [and_imp]); intros; go_simp; rfl); clear hK K)
                                                                | (refine ord_keep rfl rfl (⟨j6, j7, j8, j9⟩) (fun K hK => ?_))
                                                                | (refine ord_drop rfl rfl (fun K hK => ?_))
                                                                | (refine ord_nil ?_))
  obtain ⟨sz, hsz⟩ : ∃ sz, sz = sizeF l := ⟨_, rfl⟩
  have hz : (n6 : Int) + 256 * n7 + 65536 * n8 + 16777216 * n9 = (sz : Int) := by have := HSF.out; omega
  rw [hz]
  have HSZZ := Lib.hid hsz
  clear hz hsz j6 j7 j8 j9 HSF t6 t7 t8 t9 m6 m7 m8 m9
  have h0 : w2.heap[B]? = some (.cells #[.string ⟨#[]⟩, .int .i64 0, .slice none 0 0] 26 (0, 0)) := HS1.out.get (k := 0) (by simp)
  have h1 : w2.heap[B + 1]? = some (.cells #[.string ⟨#[]⟩, .int .i64 0, .int .i64 0, .int .i64 0, .int .i64 0, .slice none 0 0] 35 (0, 0)) := HS1.out.get (k := 1) (by simp)
  have pc0 := cell_at (j := 0) h0 rfl; have pf0 := frozen_at (j := 0) h0; have pc1 := cell_at (j := 1) h0 rfl; have pf1 := frozen_at (j := 1) h0; have pc2 := cell_at (j := 2) h0 rfl; have pf2 := frozen_at (j := 2) h0
  have qc0 := cell_at (j := 0) h1 rfl; have qf0 := frozen_at (j := 0) h1; have qc1 := cell_at (j := 1) h1 rfl; have qf1 := frozen_at (j := 1) h1; have qc2 := cell_at (j := 2) h1 rfl; have qf2 := frozen_at (j := 2) h1; have qc3 := cell_at (j := 3) h1 rfl; have qf3 := frozen_at (j := 3) h1; have qc4 := cell_at (j := 4) h1 rfl; have qf4 := frozen_at (j := 4) h1; have qc5 := cell_at (j := 5) h1 rfl; have qf5 := frozen_at (j := 5) h1
  clear h0 h1
  by_cases hsl : sz = l.length
  rotate_left
  · have HH : Hid (headF l = 70) := Lib.hid (by unfold headF; rw [if_neg h16, if_neg (by rintro (h | h); exact h14 h; exact h HMG.out), if_pos (by rw [← HSZZ.out]; exact hsl)])
    have hq : ((sz : Int) == (l.length : Int)) = false := by simp; omega
    have HSL := Lib.hid hsl
    clear hsl
    go_wp2_with fail
    have HSZ : Hid (RS w ((((((((((w2).setCell ⟨B, 0, none⟩ (.string ⟨#[]⟩)).setCell ⟨B, 1, none⟩ (.int .i64 0)).setCell ⟨B, 2, none⟩ (.slice none 0 0)).setCell ⟨B + 1, 0, none⟩ (.string ⟨#[]⟩)).setCell ⟨B + 1, 1, none⟩ (.int .i64 0)).setCell ⟨B + 1, 2, none⟩ (.int .i64 0)).setCell ⟨B + 1, 3, none⟩ (.int .i64 0)).setCell ⟨B + 1, 4, none⟩ (.int .i64 0)).setCell ⟨B + 1, 5, none⟩ (.slice none 0 0)) [boxI B #[.string ⟨#[]⟩, .int .i64 0, .slice none 0 0] 26, boxI (B + 1) #[.string ⟨#[]⟩, .int .i64 0, .int .i64 0, .int .i64 0, .int .i64 0, .slice none 0 0] 35]) := Lib.hid (RS.cell (RS.cell (RS.cell (RS.cell (RS.cell (RS.cell (RS.cell (RS.cell (RS.cell HS1.out (k := 0) (by simp) rfl 0 (.string ⟨#[]⟩)) (k := 0) (by simp) rfl 1 (.int .i64 0)) (k := 0) (by simp) rfl 2 (.slice none 0 0)) (k := 1) (by simp) rfl 0 (.string ⟨#[]⟩)) (k := 1) (by simp) rfl 1 (.int .i64 0)) (k := 1) (by simp) rfl 2 (.int .i64 0)) (k := 1) (by simp) rfl 3 (.int .i64 0)) (k := 1) (by simp) rfl 4 (.int .i64 0)) (k := 1) (by simp) rfl 5 (.slice none 0 0))
    clear pc0 pf0 pc1 pf1 pc2 pf2 qc0 qf0 qc1 qf1 qc2 qf2 qc3 qf3 qc4 qf4 qc5 qf5
    generalize (((((((((w2).setCell ⟨B, 0, none⟩ (.string ⟨#[]⟩)).setCell ⟨B, 1, none⟩ (.int .i64 0)).setCell ⟨B, 2, none⟩ (.slice none 0 0)).setCell ⟨B + 1, 0, none⟩ (.string ⟨#[]⟩)).setCell ⟨B + 1, 1, none⟩ (.int .i64 0)).setCell ⟨B + 1, 2, none⟩ (.int .i64 0)).setCell ⟨B + 1, 3, none⟩ (.int .i64 0)).setCell ⟨B + 1, 4, none⟩ (.int .i64 0)).setCell ⟨B + 1, 5, none⟩ (.slice none 0 0) = wz at *
    have h0 : wz.heap[B]? = some (.cells #[.string ⟨#[]⟩, .int .i64 0, .slice none 0 0] 26 (0, 0)) := HSZ.out.get (k := 0) (by simp)
    have h1 : wz.heap[B + 1]? = some (.cells #[.string ⟨#[]⟩, .int .i64 0, .int .i64 0, .int .i64 0, .int .i64 0, .slice none 0 0] 35 (0, 0)) := HSZ.out.get (k := 1) (by simp)
    have pc0 := cell_at (j := 0) h0 rfl; have pf0 := frozen_at (j := 0) h0; have pc1 := cell_at (j := 1) h0 rfl; have pf1 := frozen_at (j := 1) h0; have pc2 := cell_at (j := 2) h0 rfl; have pf2 := frozen_at (j := 2) h0
    have qc0 := cell_at (j := 0) h1 rfl; have qf0 := frozen_at (j := 0) h1; have qc1 := cell_at (j := 1) h1 rfl; have qf1 := frozen_at (j := 1) h1; have qc2 := cell_at (j := 2) h1 rfl; have qf2 := frozen_at (j := 2) h1; have qc3 := cell_at (j := 3) h1 rfl; have qf3 := frozen_at (j := 3) h1; have qc4 := cell_at (j := 4) h1 rfl; have qf4 := frozen_at (j := 4) h1; have qc5 := cell_at (j := 5) h1 rfl; have qf5 := frozen_at (j := 5) h1
    have hlast : GPost l w (.returned (.tuple #[.agg #[.string ⟨#[]⟩, .int .i64 0, .slice none 0 0], .agg #[.string ⟨#[]⟩, .int .i64 0, .int .i64 0, .int .i64 0, .int .i64 0, .slice none 0 0], .int .i64 70])) wz := ⟨.inl ⟨70, .inl ⟨by rw [HH.out]; omega, HH.out.symm⟩, rfl⟩, HSZ.out.md⟩
    refine bodyPost_ret (v := .tuple #[.agg #[.string ⟨#[]⟩, .int .i64 0, .slice none 0 0], .agg #[.string ⟨#[]⟩, .int .i64 0, .int .i64 0, .int .i64 0, .int .i64 0, .slice none 0 0], .int .i64 70]) ?_ rfl hlast
    clear hlast
    simp [results, Tryz.results7, go_sem, pc0, pc1, pc2, qc0, qc1, qc2, qc3, qc4, qc5]
  have hq : ((sz : Int) == (l.length : Int)) = true := by simp; omega
  have HSL : Hid (sizeF l = l.length) := Lib.hid (by rw [← HSZZ.out]; exact hsl)
  clear hsl
  go_wp2_with fail
  clear hq
  obtain ⟨cr, hcr⟩ : ∃ cr, cr = crcL (l.take (l.length - 4)) := ⟨_, rfl⟩
  have HCR := Lib.hid hcr
  have hcr32 : cr < 2 ^ 32 := by rw [hcr]; exact crcL_lt _
  have HSUM : Hid (∀ W, Mod (fun _ => False) w2 W → Calls Tryz.prog 13 #[.slice (some ⟨bb, bo, none⟩) (l.length - 4) c] W fun e w' => e = .returned (.int .u32 (cr : Nat)) ∧ W = w') := Lib.hid (fun W mW => by
    have h1 := (HR2.out.mod mW fun _ _ => id).take (l.length - 4)
    rw [bts, ← List.map_take] at h1
    have h2 := sumR_any (some ⟨bb, bo, none⟩) (l.take (l.length - 4)) c W h1 (by rw [List.length_take]; omega)
    rwa [List.length_take, show min (l.length - 4) l.length = l.length - 4 by omega, ← hcr] at h2)
  have HLOW : Hid (∀ W, Calls Tryz.prog 12 #[.slice none 0 0, .int .u32 (cr : Nat)] W fun e w' => ∃ a' c', e = .returned (.slice a' 4 c') ∧ Rd w' a' (bts (fourL cr)) ∧ Mod (fun _ => False) W w') := Lib.hid (fun W => (low_any none 0 [] cr W (Mine.Own.nil _ _ _) (by simp) hcr32).mono fun e w' h => by
    obtain ⟨a', c', h1, h2, h3⟩ := h
    exact ⟨a', c', h1, h2.rd, h3.mod0⟩)
  have HCV : Hid (∀ W, Mod (fun _ => False) w2 W → (convert 22 9 (.slice (some ⟨bb, bo + (l.length - 4), none⟩) (l.length - (l.length - 4)) (c - (l.length - 4)))).run Tryz.prog W = .ok (.string ⟨(l.drop (l.length - 4)).toArray⟩) W) := Lib.hid (fun W mW => by
    have h1 := subA_rd (HR2.out.mod mW fun _ _ => id) (c := c) (lo := l.length - 4) (k := 1) (fun h => by omega)
    have h2 : subA (some ⟨bb, bo, none⟩) c (l.length - 4) 1 = some ⟨bb, bo + (l.length - 4), none⟩ := by unfold subA; rw [if_neg (by omega), Nat.mul_one, Option.map_some]; simp [Addr.add]; omega
    rw [h2, Nat.mul_one, bts, ← List.map_drop] at h1
    have h3 := run_bytes24 (some ⟨bb, bo + (l.length - 4), none⟩) (l.drop (l.length - 4)) (c - (l.length - 4)) W h1
    rwa [List.length_drop] at h3)
  clear hcr
  obtain ⟨d4, hd4⟩ : ∃ d4, d4 = l.drop (l.length - 4) := ⟨_, rfl⟩
  rw [← hd4] at HCV
  have HD4 := Lib.hid hd4
  clear hd4
  have hk4 : ((l.length : Int) - 4).toNat = l.length - 4 := by omega
  have hcx : ¬ (c = l.length - 4) := by omega
  have md := Lib.hid ((Mod.refl (fun _ => False) w2).drew)
  have hcv := HCV.out _ md.out
  have HS2 := Lib.hid (HS1.out.mod0 md.out)
  have HSUM2 := Lib.hid (HSUM.out _ md.out)
  have HCV3 := Lib.hid (fun W (mW : Mod (fun _ => False) w2.drew W) => HCV.out W (md.out.step mW fun _ _ e => e))
  have HR3 := Lib.hid (HR2.out.mod md.out fun _ _ => id)
  refine wp_region_ord (fun w' => (convert 22 9 (.slice (some ⟨bb, bo + (l.length - 4), none⟩) (l.length - (l.length - 4)) (c - (l.length - 4)))).run Tryz.prog w' = .ok (.string ⟨d4.toArray⟩) w') [(0, 0), (0, 1), (0, 2), (0, 3), (0, 4), (0, 8), (0, 9), (0, 10), (0, 11), (0, 12), (1, 13), (2, 5), (2, 6), (2, 7), (0, 14)] (by kernel_rfl) (by kernel_rfl) ?_
  clear HS1 HR2 HSUM md pc0 pf0 pc1 pf1 pc2 pf2 qc0 qf0 qc1 qf1 qc2 qf2 qc3 qf3 qc4 qf4 qc5 qf5
  generalize w2.drew = w3 at *
  go_wp2_with (first
    | (refine ord_pure rfl rfl rfl (fun K hK => ?_); go_big_quiet_op; refine hK _ ?_; clear hK K)
                                                                | (refine ord_skip rfl rfl ?_; simp only [Act.put, List.setIfInBounds_toArray, List.set_cons_zero, List.set_cons_succ])
                                                                | (refine ord_held rfl rfl rfl (hcv) (fun K hK => ?_); apply Exists.intro; refine ⟨fun w' hs => ?_, hK _ ?_⟩; (revert hs; dsimp only; (try simp only [and_imp]); intros; go_simp; rfl); clear hK K)
                                                                | (refine ord_keep rfl rfl (hcv) (fun K hK => ?_))
                                                                | (refine ord_drop rfl rfl (fun K hK => ?_))
                                                                | (refine ord_nil ?_))
  refine HSUM2.out.mono ?_
  rintro e w9 ⟨rfl, hw9⟩
  obtain rfl : w3 = w9 := hw9
  refine hK _ _ hcv ?_
  clear hK K HSUM2
  go_wp2_with (first
    | (refine ord_pure rfl rfl rfl (fun K hK => ?_); go_big_quiet_op; refine hK _ ?_; clear hK K)
                                                                | (refine ord_skip rfl rfl ?_; simp only [Act.put, List.setIfInBounds_toArray, List.set_cons_zero, List.set_cons_succ])
                                                                | (refine ord_held rfl rfl rfl (hcv) (fun K hK => ?_); apply Exists.intro; refine ⟨fun w' hs => ?_, hK _ ?_⟩; (revert hs; dsimp only; (try simp only [and_imp]); intros; go_simp; rfl); clear hK K)
                                                                | (refine ord_keep rfl rfl (hcv) (fun K hK => ?_))
                                                                | (refine ord_drop rfl rfl (fun K hK => ?_))
                                                                | (refine ord_nil ?_))
  refine (HLOW.out w3).mono ?_
  clear hcv HLOW
  rintro e w4 ⟨a4, c4, rfl, h4, m4⟩
  have hcv4 := HCV3.out w4 m4
  have hcw : (convert 22 9 (.slice a4 4 c4)).run Tryz.prog w4 = .ok (.string ⟨(fourL cr).toArray⟩) w4 := run_bytes24 a4 (fourL cr) c4 w4 h4
  have HS4 := Lib.hid (HS2.out.mod0 m4)
  have HR4 := Lib.hid (HR3.out.mod m4 fun _ _ => id)
  clear h4 m4 HS2 HR3 HCV3 HCV
  refine hK _ _ hcv4 ?_
  clear hK K
  have h0 : w4.heap[B]? = some (.cells #[.string ⟨#[]⟩, .int .i64 0, .slice none 0 0] 26 (0, 0)) := HS4.out.get (k := 0) (by simp)
  have h1 : w4.heap[B + 1]? = some (.cells #[.string ⟨#[]⟩, .int .i64 0, .int .i64 0, .int .i64 0, .int .i64 0, .slice none 0 0] 35 (0, 0)) := HS4.out.get (k := 1) (by simp)
  have pc0 := cell_at (j := 0) h0 rfl; have pf0 := frozen_at (j := 0) h0; have pc1 := cell_at (j := 1) h0 rfl; have pf1 := frozen_at (j := 1) h0; have pc2 := cell_at (j := 2) h0 rfl; have pf2 := frozen_at (j := 2) h0
  have qc0 := cell_at (j := 0) h1 rfl; have qf0 := frozen_at (j := 0) h1; have qc1 := cell_at (j := 1) h1 rfl; have qf1 := frozen_at (j := 1) h1; have qc2 := cell_at (j := 2) h1 rfl; have qf2 := frozen_at (j := 2) h1; have qc3 := cell_at (j := 3) h1 rfl; have qf3 := frozen_at (j := 3) h1; have qc4 := cell_at (j := 4) h1 rfl; have qf4 := frozen_at (j := 4) h1; have qc5 := cell_at (j := 5) h1 rfl; have qf5 := frozen_at (j := 5) h1
  clear h0 h1
  obtain ⟨fr, hfr⟩ : ∃ fr, fr = fourL cr := ⟨_, rfl⟩
  rw [← hfr] at hcw
  have HFR := Lib.hid hfr
  clear hfr
  by_cases hsum : fr = d4
  rotate_left
  · have HH : Hid (headF l = 71) := Lib.hid (by unfold headF; rw [if_neg h16, if_neg (by rintro (h | h); exact h14 h; exact h HMG.out), if_neg (by simp [HSL.out]), if_pos (by rw [← HD4.out, ← HCR.out, ← HFR.out]; exact fun e => hsum e.symm)])
    have hq : (fr == d4) = false := by simpa using hsum
    have HSM := Lib.hid hsum
    clear hsum
    go_wp2_with (first
      | (refine ord_pure rfl rfl rfl (fun K hK => ?_); go_big_quiet_op; refine hK _ ?_; clear hK K)
                                                                | (refine ord_skip rfl rfl ?_; simp only [Act.put, List.setIfInBounds_toArray, List.set_cons_zero, List.set_cons_succ])
                                                                | (refine ord_held rfl rfl rfl (hcv4) (fun K hK => ?_); apply Exists.intro; refine ⟨fun w' hs => ?_, hK _ ?_⟩; (revert hs; dsimp only; (try simp only [and_imp]); intros; go_simp; rfl); clear hK K)
                                                                | (refine ord_keep rfl rfl (hcv4) (fun K hK => ?_))
                                                                | (refine ord_drop rfl rfl (fun K hK => ?_))
                                                                | (refine ord_nil ?_))
    refine hK _ _ hcv4 ?_
    clear hK K
    go_wp2_with (first
      | (refine ord_pure rfl rfl rfl (fun K hK => ?_); go_big_quiet_op; refine hK _ ?_; clear hK K)
                                                                | (refine ord_skip rfl rfl ?_; simp only [Act.put, List.setIfInBounds_toArray, List.set_cons_zero, List.set_cons_succ])
                                                                | (refine ord_held rfl rfl rfl (hcv4) (fun K hK => ?_); apply Exists.intro; refine ⟨fun w' hs => ?_, hK _ ?_⟩; (revert hs; dsimp only; (try simp only [and_imp]); intros; go_simp; rfl); clear hK K)
                                                                | (refine ord_keep rfl rfl (hcv4) (fun K hK => ?_))
                                                                | (refine ord_drop rfl rfl (fun K hK => ?_))
                                                                | (refine ord_nil ?_))
    have HSZ : Hid (RS w ((((((((((w4).setCell ⟨B, 0, none⟩ (.string ⟨#[]⟩)).setCell ⟨B, 1, none⟩ (.int .i64 0)).setCell ⟨B, 2, none⟩ (.slice none 0 0)).setCell ⟨B + 1, 0, none⟩ (.string ⟨#[]⟩)).setCell ⟨B + 1, 1, none⟩ (.int .i64 0)).setCell ⟨B + 1, 2, none⟩ (.int .i64 0)).setCell ⟨B + 1, 3, none⟩ (.int .i64 0)).setCell ⟨B + 1, 4, none⟩ (.int .i64 0)).setCell ⟨B + 1, 5, none⟩ (.slice none 0 0)) [boxI B #[.string ⟨#[]⟩, .int .i64 0, .slice none 0 0] 26, boxI (B + 1) #[.string ⟨#[]⟩, .int .i64 0, .int .i64 0, .int .i64 0, .int .i64 0, .slice none 0 0] 35]) := Lib.hid (RS.cell (RS.cell (RS.cell (RS.cell (RS.cell (RS.cell (RS.cell (RS.cell (RS.cell HS4.out (k := 0) (by simp) rfl 0 (.string ⟨#[]⟩)) (k := 0) (by simp) rfl 1 (.int .i64 0)) (k := 0) (by simp) rfl 2 (.slice none 0 0)) (k := 1) (by simp) rfl 0 (.string ⟨#[]⟩)) (k := 1) (by simp) rfl 1 (.int .i64 0)) (k := 1) (by simp) rfl 2 (.int .i64 0)) (k := 1) (by simp) rfl 3 (.int .i64 0)) (k := 1) (by simp) rfl 4 (.int .i64 0)) (k := 1) (by simp) rfl 5 (.slice none 0 0))
    clear pc0 pf0 pc1 pf1 pc2 pf2 qc0 qf0 qc1 qf1 qc2 qf2 qc3 qf3 qc4 qf4 qc5 qf5
    generalize (((((((((w4).setCell ⟨B, 0, none⟩ (.string ⟨#[]⟩)).setCell ⟨B, 1, none⟩ (.int .i64 0)).setCell ⟨B, 2, none⟩ (.slice none 0 0)).setCell ⟨B + 1, 0, none⟩ (.string ⟨#[]⟩)).setCell ⟨B + 1, 1, none⟩ (.int .i64 0)).setCell ⟨B + 1, 2, none⟩ (.int .i64 0)).setCell ⟨B + 1, 3, none⟩ (.int .i64 0)).setCell ⟨B + 1, 4, none⟩ (.int .i64 0)).setCell ⟨B + 1, 5, none⟩ (.slice none 0 0) = wz at *
    have h0 : wz.heap[B]? = some (.cells #[.string ⟨#[]⟩, .int .i64 0, .slice none 0 0] 26 (0, 0)) := HSZ.out.get (k := 0) (by simp)
    have h1 : wz.heap[B + 1]? = some (.cells #[.string ⟨#[]⟩, .int .i64 0, .int .i64 0, .int .i64 0, .int .i64 0, .slice none 0 0] 35 (0, 0)) := HSZ.out.get (k := 1) (by simp)
    have pc0 := cell_at (j := 0) h0 rfl; have pf0 := frozen_at (j := 0) h0; have pc1 := cell_at (j := 1) h0 rfl; have pf1 := frozen_at (j := 1) h0; have pc2 := cell_at (j := 2) h0 rfl; have pf2 := frozen_at (j := 2) h0
    have qc0 := cell_at (j := 0) h1 rfl; have qf0 := frozen_at (j := 0) h1; have qc1 := cell_at (j := 1) h1 rfl; have qf1 := frozen_at (j := 1) h1; have qc2 := cell_at (j := 2) h1 rfl; have qf2 := frozen_at (j := 2) h1; have qc3 := cell_at (j := 3) h1 rfl; have qf3 := frozen_at (j := 3) h1; have qc4 := cell_at (j := 4) h1 rfl; have qf4 := frozen_at (j := 4) h1; have qc5 := cell_at (j := 5) h1 rfl; have qf5 := frozen_at (j := 5) h1
    have hlast : GPost l w (.returned (.tuple #[.agg #[.string ⟨#[]⟩, .int .i64 0, .slice none 0 0], .agg #[.string ⟨#[]⟩, .int .i64 0, .int .i64 0, .int .i64 0, .int .i64 0, .slice none 0 0], .int .i64 71])) wz := ⟨.inl ⟨71, .inl ⟨by rw [HH.out]; omega, HH.out.symm⟩, rfl⟩, HSZ.out.md⟩
    refine bodyPost_ret (v := .tuple #[.agg #[.string ⟨#[]⟩, .int .i64 0, .slice none 0 0], .agg #[.string ⟨#[]⟩, .int .i64 0, .int .i64 0, .int .i64 0, .int .i64 0, .slice none 0 0], .int .i64 71]) ?_ rfl hlast
    clear hlast
    simp [results, Tryz.results7, go_sem, pc0, pc1, pc2, qc0, qc1, qc2, qc3, qc4, qc5]
  have HH : Hid (headF l = 0) := Lib.hid (by unfold headF; rw [if_neg h16, if_neg (by rintro (h | h); exact h14 h; exact h HMG.out), if_neg (by simp [HSL.out]), if_neg (by rw [← HD4.out, ← HCR.out, ← HFR.out]; exact fun e => e hsum.symm)])
  have hq : (fr == d4) = true := by simpa using hsum
  clear hsum pc0 pf0 pc1 pf1 pc2 pf2 qc0 qf0 qc1 qf1 qc2 qf2 qc3 qf3 qc4 qf4 qc5 qf5
  go_wp2_with (first
    | (refine ord_pure rfl rfl rfl (fun K hK => ?_); go_big_quiet_op; refine hK _ ?_; clear hK K)
                                                                | (refine ord_skip rfl rfl ?_; simp only [Act.put, List.setIfInBounds_toArray, List.set_cons_zero, List.set_cons_succ])
                                                                | (refine ord_held rfl rfl rfl (hcv4) (fun K hK => ?_); apply Exists.intro; refine ⟨fun w' hs => ?_, hK _ ?_⟩; (revert hs; dsimp only; (try simp only [and_imp]); intros; go_simp; rfl); clear hK K)
                                                                | (refine ord_keep rfl rfl (hcv4) (fun K hK => ?_))
                                                                | (refine ord_drop rfl rfl (fun K hK => ?_))
                                                                | (refine ord_nil ?_))
  refine hK _ _ hcv4 ?_
  clear hK K
  go_wp2_with (first
    | (refine ord_pure rfl rfl rfl (fun K hK => ?_); go_big_quiet_op; refine hK _ ?_; clear hK K)
                                                                | (refine ord_skip rfl rfl ?_; simp only [Act.put, List.setIfInBounds_toArray, List.set_cons_zero, List.set_cons_succ])
                                                                | (refine ord_held rfl rfl rfl (hcv4) (fun K hK => ?_); apply Exists.intro; refine ⟨fun w' hs => ?_, hK _ ?_⟩; (revert hs; dsimp only; (try simp only [and_imp]); intros; go_simp; rfl); clear hK K)
                                                                | (refine ord_keep rfl rfl (hcv4) (fun K hK => ?_))
                                                                | (refine ord_drop rfl rfl (fun K hK => ?_))
                                                                | (refine ord_nil ?_))
  clear hcv4 hcw hq hk4 hcx
  have hml : (midL l).length = l.length - 14 := mid_len
  have hm4 : l.length - 4 - 10 = (midL l).length := by omega
  rw [hm4]
  obtain ⟨m, hmm⟩ : ∃ m, m = midL l := ⟨_, rfl⟩
  have HMR : Rd w4 (some ⟨bb, bo + 10, none⟩) (bts m) := by
    have h1 := subA_part (w := w4) (a := some ⟨bb, bo, none⟩) (c := c) (from_ := 10) (n := l.length - 14) HR4.out hc
    have h2 : subA (some ⟨bb, bo, none⟩) c 10 1 = some ⟨bb, bo + 10, none⟩ := by unfold subA; rw [if_neg (by omega)]; rfl
    rw [h2] at h1
    rw [hmm]
    exact h1
  rw [← hmm] at hml hm4 ⊢
  have HMM := Lib.hid hmm
  have HBBL := HR4.out.lt (by intro h; have h2 : l.length = 0 := by simpa [bts] using congrArg List.length h
                              omega) bb rfl
  have HGU := Lib.hid (guess_any bb (bo + 10) (c - 10) m w4 HMR (by omega) (by omega) HBBL)
  clear hmm HMR hm4 HBBL
  refine HGU.out.mono ?_
  clear HGU
  rintro e w5 ⟨(⟨F, ra, rc, hP, hBd, rfl, hrows⟩ | ⟨hno, rfl⟩), hm5⟩
  rotate_left
  · have HNO := Lib.hid hno
    have HS5 := Lib.hid ((HS4.out.mod0 hm5).mod0 ((Mod.refl _ w5).alloc (.cells #[.string ⟨#[]⟩, .int .i64 0, .slice none 0 0] 26)))
    clear hno hm5
    have h0 : (w5.alloc (.cells #[.string ⟨#[]⟩, .int .i64 0, .slice none 0 0] 26)).heap[B]? = some (.cells #[.string ⟨#[]⟩, .int .i64 0, .slice none 0 0] 26 (0, 0)) := HS5.out.get (k := 0) (by simp)
    have h1 : (w5.alloc (.cells #[.string ⟨#[]⟩, .int .i64 0, .slice none 0 0] 26)).heap[B + 1]? = some (.cells #[.string ⟨#[]⟩, .int .i64 0, .int .i64 0, .int .i64 0, .int .i64 0, .slice none 0 0] 35 (0, 0)) := HS5.out.get (k := 1) (by simp)
    have pc0 := cell_at (j := 0) h0 rfl; have pf0 := frozen_at (j := 0) h0; have pc1 := cell_at (j := 1) h0 rfl; have pf1 := frozen_at (j := 1) h0; have pc2 := cell_at (j := 2) h0 rfl; have pf2 := frozen_at (j := 2) h0
    have qc0 := cell_at (j := 0) h1 rfl; have qf0 := frozen_at (j := 0) h1; have qc1 := cell_at (j := 1) h1 rfl; have qf1 := frozen_at (j := 1) h1; have qc2 := cell_at (j := 2) h1 rfl; have qf2 := frozen_at (j := 2) h1; have qc3 := cell_at (j := 3) h1 rfl; have qf3 := frozen_at (j := 3) h1; have qc4 := cell_at (j := 4) h1 rfl; have qf4 := frozen_at (j := 4) h1; have qc5 := cell_at (j := 5) h1 rfl; have qf5 := frozen_at (j := 5) h1
    clear h0 h1
    go_wp2_with fail
    have HSZ : Hid (RS w (((((((((((w5.alloc (.cells #[.string ⟨#[]⟩, .int .i64 0, .slice none 0 0] 26))).setCell ⟨B, 0, none⟩ (.string ⟨#[]⟩)).setCell ⟨B, 1, none⟩ (.int .i64 0)).setCell ⟨B, 2, none⟩ (.slice none 0 0)).setCell ⟨B + 1, 0, none⟩ (.string ⟨#[]⟩)).setCell ⟨B + 1, 1, none⟩ (.int .i64 0)).setCell ⟨B + 1, 2, none⟩ (.int .i64 0)).setCell ⟨B + 1, 3, none⟩ (.int .i64 0)).setCell ⟨B + 1, 4, none⟩ (.int .i64 0)).setCell ⟨B + 1, 5, none⟩ (.slice none 0 0)) [boxI B #[.string ⟨#[]⟩, .int .i64 0, .slice none 0 0] 26, boxI (B + 1) #[.string ⟨#[]⟩, .int .i64 0, .int .i64 0, .int .i64 0, .int .i64 0, .slice none 0 0] 35]) := Lib.hid (RS.cell (RS.cell (RS.cell (RS.cell (RS.cell (RS.cell (RS.cell (RS.cell (RS.cell HS5.out (k := 0) (by simp) rfl 0 (.string ⟨#[]⟩)) (k := 0) (by simp) rfl 1 (.int .i64 0)) (k := 0) (by simp) rfl 2 (.slice none 0 0)) (k := 1) (by simp) rfl 0 (.string ⟨#[]⟩)) (k := 1) (by simp) rfl 1 (.int .i64 0)) (k := 1) (by simp) rfl 2 (.int .i64 0)) (k := 1) (by simp) rfl 3 (.int .i64 0)) (k := 1) (by simp) rfl 4 (.int .i64 0)) (k := 1) (by simp) rfl 5 (.slice none 0 0))
    clear pc0 pf0 pc1 pf1 pc2 pf2 qc0 qf0 qc1 qf1 qc2 qf2 qc3 qf3 qc4 qf4 qc5 qf5
    generalize ((((((((((w5.alloc (.cells #[.string ⟨#[]⟩, .int .i64 0, .slice none 0 0] 26))).setCell ⟨B, 0, none⟩ (.string ⟨#[]⟩)).setCell ⟨B, 1, none⟩ (.int .i64 0)).setCell ⟨B, 2, none⟩ (.slice none 0 0)).setCell ⟨B + 1, 0, none⟩ (.string ⟨#[]⟩)).setCell ⟨B + 1, 1, none⟩ (.int .i64 0)).setCell ⟨B + 1, 2, none⟩ (.int .i64 0)).setCell ⟨B + 1, 3, none⟩ (.int .i64 0)).setCell ⟨B + 1, 4, none⟩ (.int .i64 0)).setCell ⟨B + 1, 5, none⟩ (.slice none 0 0) = wz at *
    have h0 : wz.heap[B]? = some (.cells #[.string ⟨#[]⟩, .int .i64 0, .slice none 0 0] 26 (0, 0)) := HSZ.out.get (k := 0) (by simp)
    have h1 : wz.heap[B + 1]? = some (.cells #[.string ⟨#[]⟩, .int .i64 0, .int .i64 0, .int .i64 0, .int .i64 0, .slice none 0 0] 35 (0, 0)) := HSZ.out.get (k := 1) (by simp)
    have pc0 := cell_at (j := 0) h0 rfl; have pf0 := frozen_at (j := 0) h0; have pc1 := cell_at (j := 1) h0 rfl; have pf1 := frozen_at (j := 1) h0; have pc2 := cell_at (j := 2) h0 rfl; have pf2 := frozen_at (j := 2) h0
    have qc0 := cell_at (j := 0) h1 rfl; have qf0 := frozen_at (j := 0) h1; have qc1 := cell_at (j := 1) h1 rfl; have qf1 := frozen_at (j := 1) h1; have qc2 := cell_at (j := 2) h1 rfl; have qf2 := frozen_at (j := 2) h1; have qc3 := cell_at (j := 3) h1 rfl; have qf3 := frozen_at (j := 3) h1; have qc4 := cell_at (j := 4) h1 rfl; have qf4 := frozen_at (j := 4) h1; have qc5 := cell_at (j := 5) h1 rfl; have qf5 := frozen_at (j := 5) h1
    have hlast : GPost l w (.returned (.tuple #[.agg #[.string ⟨#[]⟩, .int .i64 0, .slice none 0 0], .agg #[.string ⟨#[]⟩, .int .i64 0, .int .i64 0, .int .i64 0, .int .i64 0, .slice none 0 0], .int .i64 70])) wz := ⟨.inl ⟨70, .inr ⟨HH.out, fun G hG1 hG2 => HNO.out G (by rw [HMM.out]; exact hG1) hG2.ok.bounds, rfl⟩, rfl⟩, HSZ.out.md⟩
    refine bodyPost_ret (v := .tuple #[.agg #[.string ⟨#[]⟩, .int .i64 0, .slice none 0 0], .agg #[.string ⟨#[]⟩, .int .i64 0, .int .i64 0, .int .i64 0, .int .i64 0, .slice none 0 0], .int .i64 70]) ?_ rfl hlast
    clear hlast
    simp [results, Tryz.results7, go_sem, pc0, pc1, pc2, qc0, qc1, qc2, qc3, qc4, qc5]
  obtain ⟨hs, hLL⟩ := hrows
  have HPA : Hid (Parse (midL l) F) := Lib.hid (by rw [← HMM.out]; exact hP)
  have HRL : Hid (LL (fun b => w4.heap.size ≤ b) w4 w5 52 ra rc hs ((rowsF F.ts F.cs F.n).map sts)) := Lib.hid hLL
  have HMW4 := Lib.hid HS4.out.md
  have HB4 : Hid (B + 1 < w4.heap.size) := Lib.hid (Array.getElem?_eq_some_iff.1 (show w4.heap[B + 1]? = some _ from HS4.out.get (k := 1) (by simp))).1
  have hrel := rel_ok hP hBd (hLL.mod0 ((Mod.refl _ w5).alloc (.cells #[.string ⟨F.nm.toArray⟩, .int .i64 F.A, .slice ra F.n rc] 26)))
  have HBD := Lib.hid hBd
  have HLD := Lib.hid (laidR7_any ⟨F.nm.toArray⟩ F.A ra rc hs (rowsF F.ts F.cs F.n) _ hrel)
  rw [rowsF_length] at HLD
  have HS6 : Hid (RS w (w5.alloc (.cells #[.string ⟨F.nm.toArray⟩, .int .i64 F.A, .slice ra F.n rc] 26)) [boxI B #[.string ⟨#[]⟩, .int .i64 0, .slice none 0 0] 26, boxI (B + 1) #[.string ⟨#[]⟩, .int .i64 0, .int .i64 0, .int .i64 0, .int .i64 0, .slice none 0 0] 35, boxI w5.heap.size #[.string ⟨F.nm.toArray⟩, .int .i64 F.A, .slice ra F.n rc] 26]) := Lib.hid ((HS4.out.mod0 hm5).push ((Mod.refl _ w5).alloc (.cells #[.string ⟨F.nm.toArray⟩, .int .i64 F.A, .slice ra F.n rc] 26)) (heap_alloc_new w5 _) (fun b hb => Nat.le_of_eq (Eq.symm hb)))
  have HR6 := Lib.hid ((HR4.out.mod hm5 fun _ _ => id).mod ((Mod.refl (fun _ => False) w5).alloc (.cells #[.string ⟨F.nm.toArray⟩, .int .i64 F.A, .slice ra F.n rc] 26)) fun _ _ => id)
  have HML := Lib.hid ((Mod.refl (fun _ => False) w5).alloc (.cells #[.string ⟨F.nm.toArray⟩, .int .i64 F.A, .slice ra F.n rc] 26))
  clear hm5 hP hBd hLL hrel HS4 HR4
  simp only [relV]
  go_wp2_with fail
  obtain ⟨X, hX⟩ : ∃ X, X = w5.heap.size := ⟨_, rfl⟩
  rw [← hX] at HS6 ⊢
  have HXX := Lib.hid hX
  clear hX
  generalize w5.alloc (.cells #[.string ⟨F.nm.toArray⟩, .int .i64 F.A, .slice ra F.n rc] 26) = w6 at *
  by_cases hfine : Fine (midL l) F
  rotate_left
  · have HNF := Lib.hid hfine
    have HLD2 : Hid (Calls Tryz.prog 15 #[.agg #[.string ⟨F.nm.toArray⟩, .int .i64 F.A, .slice ra F.n rc]] w6 fun e w' => (e = .returned (.tuple #[.slice none 0 0, .agg #[.string ⟨#[]⟩, .int .i64 0, .int .i64 0, .int .i64 0, .int .i64 0, .slice none 0 0], .int .i64 3]) ∨ ∃ x oa oc k1 k2 k3 pa pc, x ≠ l ∧ e = .returned (.tuple #[.slice oa (x : List UInt8).length oc, .agg #[.string ⟨F.nm.toArray⟩, .int .i64 F.A, .int .i64 (k1 : Int), .int .i64 (k2 : Int), .int .i64 (k3 : Int), .slice pa F.A pc], .int .i64 0]) ∧ Rd w' oa (bts x)) ∧ Mod (fun _ => False) w6 w') := Lib.hid (HLD.out.mono fun e w' h => by
      rcases h with ⟨⟨_, h1⟩ | ⟨oa, oc, pa, pc, _, h1, h2, _, _⟩, h3⟩
      · exact ⟨.inl h1, h3⟩
      · refine ⟨.inr ⟨_, oa, oc, _, _, _, pa, pc, fun e => hfine ?_, h1, h2⟩, h3⟩
        rw [ba_list] at e
        have h4 := (file_iff HH.out).1 e
        exact fine_back (by rw [mid_len]; omega) HPA.out HBD.out h4)
    clear hfine HLD
    refine HLD2.out.mono ?_
    clear HLD2
    rintro e w7 ⟨(rfl | ⟨x, oa, oc, k1, k2, k3, pa, pc, hne, rfl, hrx⟩), hm7⟩
    · have HS7 := Lib.hid ((HS6.out.mod0 hm7).mod0 ((Mod.refl _ w7).alloc (.cells #[.string ⟨#[]⟩, .int .i64 0, .int .i64 0, .int .i64 0, .int .i64 0, .slice none 0 0] 35)))
      clear hm7 HS6
      have HS8 : Hid (RS w (w7.alloc (.cells #[.string ⟨#[]⟩, .int .i64 0, .int .i64 0, .int .i64 0, .int .i64 0, .slice none 0 0] 35)) [boxI B #[.string ⟨#[]⟩, .int .i64 0, .slice none 0 0] 26, boxI (B + 1) #[.string ⟨#[]⟩, .int .i64 0, .int .i64 0, .int .i64 0, .int .i64 0, .slice none 0 0] 35]) := Lib.hid ⟨HS7.out.fam.sub (List.sublist_append_left [_, _] [_]), HS7.out.md⟩
      have h0 : (w7.alloc (.cells #[.string ⟨#[]⟩, .int .i64 0, .int .i64 0, .int .i64 0, .int .i64 0, .slice none 0 0] 35)).heap[B]? = some (.cells #[.string ⟨#[]⟩, .int .i64 0, .slice none 0 0] 26 (0, 0)) := HS8.out.get (k := 0) (by simp)
      have h1 : (w7.alloc (.cells #[.string ⟨#[]⟩, .int .i64 0, .int .i64 0, .int .i64 0, .int .i64 0, .slice none 0 0] 35)).heap[B + 1]? = some (.cells #[.string ⟨#[]⟩, .int .i64 0, .int .i64 0, .int .i64 0, .int .i64 0, .slice none 0 0] 35 (0, 0)) := HS8.out.get (k := 1) (by simp)
      have pc0 := cell_at (j := 0) h0 rfl; have pf0 := frozen_at (j := 0) h0; have pc1 := cell_at (j := 1) h0 rfl; have pf1 := frozen_at (j := 1) h0; have pc2 := cell_at (j := 2) h0 rfl; have pf2 := frozen_at (j := 2) h0
      have qc0 := cell_at (j := 0) h1 rfl; have qf0 := frozen_at (j := 0) h1; have qc1 := cell_at (j := 1) h1 rfl; have qf1 := frozen_at (j := 1) h1; have qc2 := cell_at (j := 2) h1 rfl; have qf2 := frozen_at (j := 2) h1; have qc3 := cell_at (j := 3) h1 rfl; have qf3 := frozen_at (j := 3) h1; have qc4 := cell_at (j := 4) h1 rfl; have qf4 := frozen_at (j := 4) h1; have qc5 := cell_at (j := 5) h1 rfl; have qf5 := frozen_at (j := 5) h1
      clear h0 h1
      go_wp2_with fail
      have HSZ : Hid (RS w (((((((((((w7.alloc (.cells #[.string ⟨#[]⟩, .int .i64 0, .int .i64 0, .int .i64 0, .int .i64 0, .slice none 0 0] 35))).setCell ⟨B, 0, none⟩ (.string ⟨#[]⟩)).setCell ⟨B, 1, none⟩ (.int .i64 0)).setCell ⟨B, 2, none⟩ (.slice none 0 0)).setCell ⟨B + 1, 0, none⟩ (.string ⟨#[]⟩)).setCell ⟨B + 1, 1, none⟩ (.int .i64 0)).setCell ⟨B + 1, 2, none⟩ (.int .i64 0)).setCell ⟨B + 1, 3, none⟩ (.int .i64 0)).setCell ⟨B + 1, 4, none⟩ (.int .i64 0)).setCell ⟨B + 1, 5, none⟩ (.slice none 0 0)) [boxI B #[.string ⟨#[]⟩, .int .i64 0, .slice none 0 0] 26, boxI (B + 1) #[.string ⟨#[]⟩, .int .i64 0, .int .i64 0, .int .i64 0, .int .i64 0, .slice none 0 0] 35]) := Lib.hid (RS.cell (RS.cell (RS.cell (RS.cell (RS.cell (RS.cell (RS.cell (RS.cell (RS.cell HS8.out (k := 0) (by simp) rfl 0 (.string ⟨#[]⟩)) (k := 0) (by simp) rfl 1 (.int .i64 0)) (k := 0) (by simp) rfl 2 (.slice none 0 0)) (k := 1) (by simp) rfl 0 (.string ⟨#[]⟩)) (k := 1) (by simp) rfl 1 (.int .i64 0)) (k := 1) (by simp) rfl 2 (.int .i64 0)) (k := 1) (by simp) rfl 3 (.int .i64 0)) (k := 1) (by simp) rfl 4 (.int .i64 0)) (k := 1) (by simp) rfl 5 (.slice none 0 0))
      clear pc0 pf0 pc1 pf1 pc2 pf2 qc0 qf0 qc1 qf1 qc2 qf2 qc3 qf3 qc4 qf4 qc5 qf5
      generalize ((((((((((w7.alloc (.cells #[.string ⟨#[]⟩, .int .i64 0, .int .i64 0, .int .i64 0, .int .i64 0, .slice none 0 0] 35))).setCell ⟨B, 0, none⟩ (.string ⟨#[]⟩)).setCell ⟨B, 1, none⟩ (.int .i64 0)).setCell ⟨B, 2, none⟩ (.slice none 0 0)).setCell ⟨B + 1, 0, none⟩ (.string ⟨#[]⟩)).setCell ⟨B + 1, 1, none⟩ (.int .i64 0)).setCell ⟨B + 1, 2, none⟩ (.int .i64 0)).setCell ⟨B + 1, 3, none⟩ (.int .i64 0)).setCell ⟨B + 1, 4, none⟩ (.int .i64 0)).setCell ⟨B + 1, 5, none⟩ (.slice none 0 0) = wz at *
      have h0 : wz.heap[B]? = some (.cells #[.string ⟨#[]⟩, .int .i64 0, .slice none 0 0] 26 (0, 0)) := HSZ.out.get (k := 0) (by simp)
      have h1 : wz.heap[B + 1]? = some (.cells #[.string ⟨#[]⟩, .int .i64 0, .int .i64 0, .int .i64 0, .int .i64 0, .slice none 0 0] 35 (0, 0)) := HSZ.out.get (k := 1) (by simp)
      have pc0 := cell_at (j := 0) h0 rfl; have pf0 := frozen_at (j := 0) h0; have pc1 := cell_at (j := 1) h0 rfl; have pf1 := frozen_at (j := 1) h0; have pc2 := cell_at (j := 2) h0 rfl; have pf2 := frozen_at (j := 2) h0
      have qc0 := cell_at (j := 0) h1 rfl; have qf0 := frozen_at (j := 0) h1; have qc1 := cell_at (j := 1) h1 rfl; have qf1 := frozen_at (j := 1) h1; have qc2 := cell_at (j := 2) h1 rfl; have qf2 := frozen_at (j := 2) h1; have qc3 := cell_at (j := 3) h1 rfl; have qf3 := frozen_at (j := 3) h1; have qc4 := cell_at (j := 4) h1 rfl; have qf4 := frozen_at (j := 4) h1; have qc5 := cell_at (j := 5) h1 rfl; have qf5 := frozen_at (j := 5) h1
      have hlast : GPost l w (.returned (.tuple #[.agg #[.string ⟨#[]⟩, .int .i64 0, .slice none 0 0], .agg #[.string ⟨#[]⟩, .int .i64 0, .int .i64 0, .int .i64 0, .int .i64 0, .slice none 0 0], .int .i64 70])) wz := ⟨.inl ⟨70, .inr ⟨HH.out, fun G hG1 hG2 => HNF.out (by rw [HPA.out.same hG1]; exact hG2), rfl⟩, rfl⟩, HSZ.out.md⟩
      refine bodyPost_ret (v := .tuple #[.agg #[.string ⟨#[]⟩, .int .i64 0, .slice none 0 0], .agg #[.string ⟨#[]⟩, .int .i64 0, .int .i64 0, .int .i64 0, .int .i64 0, .slice none 0 0], .int .i64 70]) ?_ rfl hlast
      clear hlast
      simp [results, Tryz.results7, go_sem, pc0, pc1, pc2, qc0, qc1, qc2, qc3, qc4, qc5]
    · have HS7 := Lib.hid ((HS6.out.mod0 hm7).mod0 ((Mod.refl _ w7).alloc (.cells #[.string ⟨F.nm.toArray⟩, .int .i64 F.A, .int .i64 (k1 : Int), .int .i64 (k2 : Int), .int .i64 (k3 : Int), .slice pa F.A pc] 35)))
      have HS8 : Hid (RS w (w7.alloc (.cells #[.string ⟨F.nm.toArray⟩, .int .i64 F.A, .int .i64 (k1 : Int), .int .i64 (k2 : Int), .int .i64 (k3 : Int), .slice pa F.A pc] 35)) [boxI B #[.string ⟨#[]⟩, .int .i64 0, .slice none 0 0] 26, boxI (B + 1) #[.string ⟨#[]⟩, .int .i64 0, .int .i64 0, .int .i64 0, .int .i64 0, .slice none 0 0] 35]) := Lib.hid ⟨HS7.out.fam.sub (List.sublist_append_left [_, _] [_]), HS7.out.md⟩
      have ma := (Mod.refl (fun _ => False) w7).alloc (.cells #[.string ⟨F.nm.toArray⟩, .int .i64 F.A, .int .i64 (k1 : Int), .int .i64 (k2 : Int), .int .i64 (k3 : Int), .slice pa F.A pc] 35)
      have hcx1 := run_bytes24 oa x oc _ (hrx.mod ma fun _ _ => id)
      have hcx2 := run_bytes24 (some ⟨bb, bo, none⟩) l c _ ((HR6.out.mod hm7 fun _ _ => id).mod ma fun _ _ => id)
      have hq : (x == l) = false := by simpa using hne
      clear hm7 HS6 HS7 ma hrx hne
      have h0 : (w7.alloc (.cells #[.string ⟨F.nm.toArray⟩, .int .i64 F.A, .int .i64 (k1 : Int), .int .i64 (k2 : Int), .int .i64 (k3 : Int), .slice pa F.A pc] 35)).heap[B]? = some (.cells #[.string ⟨#[]⟩, .int .i64 0, .slice none 0 0] 26 (0, 0)) := HS8.out.get (k := 0) (by simp)
      have h1 : (w7.alloc (.cells #[.string ⟨F.nm.toArray⟩, .int .i64 F.A, .int .i64 (k1 : Int), .int .i64 (k2 : Int), .int .i64 (k3 : Int), .slice pa F.A pc] 35)).heap[B + 1]? = some (.cells #[.string ⟨#[]⟩, .int .i64 0, .int .i64 0, .int .i64 0, .int .i64 0, .slice none 0 0] 35 (0, 0)) := HS8.out.get (k := 1) (by simp)
      have pc0 := cell_at (j := 0) h0 rfl; have pf0 := frozen_at (j := 0) h0; have pc1 := cell_at (j := 1) h0 rfl; have pf1 := frozen_at (j := 1) h0; have pc2 := cell_at (j := 2) h0 rfl; have pf2 := frozen_at (j := 2) h0
      have qc0 := cell_at (j := 0) h1 rfl; have qf0 := frozen_at (j := 0) h1; have qc1 := cell_at (j := 1) h1 rfl; have qf1 := frozen_at (j := 1) h1; have qc2 := cell_at (j := 2) h1 rfl; have qf2 := frozen_at (j := 2) h1; have qc3 := cell_at (j := 3) h1 rfl; have qf3 := frozen_at (j := 3) h1; have qc4 := cell_at (j := 4) h1 rfl; have qf4 := frozen_at (j := 4) h1; have qc5 := cell_at (j := 5) h1 rfl; have qf5 := frozen_at (j := 5) h1
      clear h0 h1
      go_wp2_with fail
      clear hcx1 hcx2
      have HSZ : Hid (RS w (((((((((((w7.alloc (.cells #[.string ⟨F.nm.toArray⟩, .int .i64 F.A, .int .i64 (k1 : Int), .int .i64 (k2 : Int), .int .i64 (k3 : Int), .slice pa F.A pc] 35))).setCell ⟨B, 0, none⟩ (.string ⟨#[]⟩)).setCell ⟨B, 1, none⟩ (.int .i64 0)).setCell ⟨B, 2, none⟩ (.slice none 0 0)).setCell ⟨B + 1, 0, none⟩ (.string ⟨#[]⟩)).setCell ⟨B + 1, 1, none⟩ (.int .i64 0)).setCell ⟨B + 1, 2, none⟩ (.int .i64 0)).setCell ⟨B + 1, 3, none⟩ (.int .i64 0)).setCell ⟨B + 1, 4, none⟩ (.int .i64 0)).setCell ⟨B + 1, 5, none⟩ (.slice none 0 0)) [boxI B #[.string ⟨#[]⟩, .int .i64 0, .slice none 0 0] 26, boxI (B + 1) #[.string ⟨#[]⟩, .int .i64 0, .int .i64 0, .int .i64 0, .int .i64 0, .slice none 0 0] 35]) := Lib.hid (RS.cell (RS.cell (RS.cell (RS.cell (RS.cell (RS.cell (RS.cell (RS.cell (RS.cell HS8.out (k := 0) (by simp) rfl 0 (.string ⟨#[]⟩)) (k := 0) (by simp) rfl 1 (.int .i64 0)) (k := 0) (by simp) rfl 2 (.slice none 0 0)) (k := 1) (by simp) rfl 0 (.string ⟨#[]⟩)) (k := 1) (by simp) rfl 1 (.int .i64 0)) (k := 1) (by simp) rfl 2 (.int .i64 0)) (k := 1) (by simp) rfl 3 (.int .i64 0)) (k := 1) (by simp) rfl 4 (.int .i64 0)) (k := 1) (by simp) rfl 5 (.slice none 0 0))
      clear pc0 pf0 pc1 pf1 pc2 pf2 qc0 qf0 qc1 qf1 qc2 qf2 qc3 qf3 qc4 qf4 qc5 qf5
      generalize ((((((((((w7.alloc (.cells #[.string ⟨F.nm.toArray⟩, .int .i64 F.A, .int .i64 (k1 : Int), .int .i64 (k2 : Int), .int .i64 (k3 : Int), .slice pa F.A pc] 35))).setCell ⟨B, 0, none⟩ (.string ⟨#[]⟩)).setCell ⟨B, 1, none⟩ (.int .i64 0)).setCell ⟨B, 2, none⟩ (.slice none 0 0)).setCell ⟨B + 1, 0, none⟩ (.string ⟨#[]⟩)).setCell ⟨B + 1, 1, none⟩ (.int .i64 0)).setCell ⟨B + 1, 2, none⟩ (.int .i64 0)).setCell ⟨B + 1, 3, none⟩ (.int .i64 0)).setCell ⟨B + 1, 4, none⟩ (.int .i64 0)).setCell ⟨B + 1, 5, none⟩ (.slice none 0 0) = wz at *
      have h0 : wz.heap[B]? = some (.cells #[.string ⟨#[]⟩, .int .i64 0, .slice none 0 0] 26 (0, 0)) := HSZ.out.get (k := 0) (by simp)
      have h1 : wz.heap[B + 1]? = some (.cells #[.string ⟨#[]⟩, .int .i64 0, .int .i64 0, .int .i64 0, .int .i64 0, .slice none 0 0] 35 (0, 0)) := HSZ.out.get (k := 1) (by simp)
      have pc0 := cell_at (j := 0) h0 rfl; have pf0 := frozen_at (j := 0) h0; have pc1 := cell_at (j := 1) h0 rfl; have pf1 := frozen_at (j := 1) h0; have pc2 := cell_at (j := 2) h0 rfl; have pf2 := frozen_at (j := 2) h0
      have qc0 := cell_at (j := 0) h1 rfl; have qf0 := frozen_at (j := 0) h1; have qc1 := cell_at (j := 1) h1 rfl; have qf1 := frozen_at (j := 1) h1; have qc2 := cell_at (j := 2) h1 rfl; have qf2 := frozen_at (j := 2) h1; have qc3 := cell_at (j := 3) h1 rfl; have qf3 := frozen_at (j := 3) h1; have qc4 := cell_at (j := 4) h1 rfl; have qf4 := frozen_at (j := 4) h1; have qc5 := cell_at (j := 5) h1 rfl; have qf5 := frozen_at (j := 5) h1
      have hlast : GPost l w (.returned (.tuple #[.agg #[.string ⟨#[]⟩, .int .i64 0, .slice none 0 0], .agg #[.string ⟨#[]⟩, .int .i64 0, .int .i64 0, .int .i64 0, .int .i64 0, .slice none 0 0], .int .i64 70])) wz := ⟨.inl ⟨70, .inr ⟨HH.out, fun G hG1 hG2 => HNF.out (by rw [HPA.out.same hG1]; exact hG2), rfl⟩, rfl⟩, HSZ.out.md⟩
      refine bodyPost_ret (v := .tuple #[.agg #[.string ⟨#[]⟩, .int .i64 0, .slice none 0 0], .agg #[.string ⟨#[]⟩, .int .i64 0, .int .i64 0, .int .i64 0, .int .i64 0, .slice none 0 0], .int .i64 70]) ?_ rfl hlast
      clear hlast
      simp [results, Tryz.results7, go_sem, pc0, pc1, pc2, qc0, qc1, qc2, qc3, qc4, qc5]
  have HFI := Lib.hid hfine
  have HLD3 : Hid (Calls Tryz.prog 15 #[.agg #[.string ⟨F.nm.toArray⟩, .int .i64 F.A, .slice ra F.n rc]] w6 fun e w' => (∃ oa oc pa pc, e = .returned (.tuple #[.slice oa l.length oc, .agg #[.string ⟨F.nm.toArray⟩, .int .i64 F.A, .int .i64 F.n, .int .i64 F.ts.length, .int .i64 F.d, .slice pa F.A pc], .int .i64 0]) ∧ Rd w' oa (bts l) ∧ Rd w' pa (ns F.ps) ∧ ∀ b, blk pa = some b → w6.heap.size ≤ b) ∧ Mod (fun _ => False) w6 w') := Lib.hid (HLD.out.mono fun e w' h => by
    obtain ⟨e1, e2, e3, e4⟩ := fine_of HPA.out hfine
    have K := HPA.out.facts
    rcases h with ⟨⟨h0, _⟩ | ⟨oa, oc, pa, pc, _, h1, h2, h3, h4⟩, h5⟩
    · rw [ba_list] at h0
      exact absurd h0 (not_big HH.out HPA.out hfine)
    · rw [ba_list, e4, head_file HH.out] at h1 h2
      rw [e1, e2, rowsF_length, ← K.d] at h1
      rw [e1, e3, ← K.ps] at h3
      exact ⟨⟨oa, oc, pa, pc, h1, h2, h3, h4⟩, h5⟩)
  clear hfine HLD
  refine HLD3.out.mono ?_
  clear HLD3
  rintro e w7 ⟨⟨oa, oc, pa, pc, rfl, hrx, hrp, hpf⟩, hm7⟩
  have ma := (Mod.refl (fun _ => False) w7).alloc (.cells #[.string ⟨F.nm.toArray⟩, .int .i64 F.A, .int .i64 F.n, .int .i64 F.ts.length, .int .i64 F.d, .slice pa F.A pc] 35)
  have HS8 : Hid (RS w (w7.alloc (.cells #[.string ⟨F.nm.toArray⟩, .int .i64 F.A, .int .i64 F.n, .int .i64 F.ts.length, .int .i64 F.d, .slice pa F.A pc] 35)) [boxI B #[.string ⟨#[]⟩, .int .i64 0, .slice none 0 0] 26, boxI (B + 1) #[.string ⟨#[]⟩, .int .i64 0, .int .i64 0, .int .i64 0, .int .i64 0, .slice none 0 0] 35, boxI X #[.string ⟨F.nm.toArray⟩, .int .i64 F.A, .slice ra F.n rc] 26, boxI w7.heap.size #[.string ⟨F.nm.toArray⟩, .int .i64 F.A, .int .i64 F.n, .int .i64 F.ts.length, .int .i64 F.d, .slice pa F.A pc] 35]) := Lib.hid ((HS6.out.mod0 hm7).push ma (heap_alloc_new w7 _) (fun b hb => Nat.le_of_eq (Eq.symm hb)))
  have hcx1 := run_bytes24 oa l oc _ (hrx.mod ma fun _ _ => id)
  have hcx2 := run_bytes24 (some ⟨bb, bo, none⟩) l c _ ((HR6.out.mod hm7 fun _ _ => id).mod ma fun _ _ => id)
  have HRP := Lib.hid hrp
  have HPF := Lib.hid hpf
  have HM7 := Lib.hid (HML.out.step hm7 fun _ _ e => e)
  have HMS := Lib.hid hm7.size
  have HM19 : Hid (Mod (fun b => b = B ∨ b = B + 1) w7 (w7.alloc (.cells #[.string ⟨F.nm.toArray⟩, .int .i64 F.A, .int .i64 F.n, .int .i64 F.ts.length, .int .i64 F.d, .slice pa F.A pc] 35))) := Lib.hid ((Mod.refl _ w7).alloc _)
  have hq : (l == l) = true := by simp
  have HXB : Hid (B + 1 < w6.heap.size) := Lib.hid (Array.getElem?_eq_some_iff.1 (show w6.heap[B + 1]? = some _ from HS6.out.get (k := 1) (by simp))).1
  clear hm7 HS6 ma hrx hrp hpf HR6
  obtain ⟨Y, hY⟩ : ∃ Y, Y = w7.heap.size := ⟨_, rfl⟩
  go_upto_region 14 with fail
  rw [← hY] at HS8 ⊢
  clear hY
  generalize w7.alloc (.cells #[.string ⟨F.nm.toArray⟩, .int .i64 F.A, .int .i64 F.n, .int .i64 F.ts.length, .int .i64 F.d, .slice pa F.A pc] 35) = w19 at *
  go_wp2_with fail
  clear hcx1 hcx2 hq
  refine wp_region_ord (fun w' => (w'.cell? ⟨X, 0, none⟩ = some (.string ⟨F.nm.toArray⟩) ∧ w'.cell? ⟨X, 1, none⟩ = some (.int .i64 F.A) ∧ w'.cell? ⟨X, 2, none⟩ = some (.slice ra F.n rc)) ∧ w'.cell? ⟨Y, 0, none⟩ = some (.string ⟨F.nm.toArray⟩) ∧ w'.cell? ⟨Y, 1, none⟩ = some (.int .i64 F.A) ∧ w'.cell? ⟨Y, 2, none⟩ = some (.int .i64 F.n) ∧ w'.cell? ⟨Y, 3, none⟩ = some (.int .i64 F.ts.length) ∧ w'.cell? ⟨Y, 4, none⟩ = some (.int .i64 F.d) ∧ w'.cell? ⟨Y, 5, none⟩ = some (.slice pa F.A pc)) [(1, 0), (1, 1), (2, 2), (3, 3), (0, 4)] (by kernel_rfl) (by kernel_rfl) ?_
  have HS20 := Lib.hid (HS8.out.mod0 (w' := w19.drew) ((Mod.refl _ w19).drew))
  have HM20 := Lib.hid (HM19.out.drew)
  clear HS8 HM19
  generalize w19.drew = w20 at *
  have h0 : w20.heap[B]? = some (.cells #[.string ⟨#[]⟩, .int .i64 0, .slice none 0 0] 26 (0, 0)) := HS20.out.get (k := 0) (by simp)
  have pc0 := cell_at (j := 0) h0 rfl; have pf0 := frozen_at (j := 0) h0; have pc1 := cell_at (j := 1) h0 rfl; have pf1 := frozen_at (j := 1) h0; have pc2 := cell_at (j := 2) h0 rfl; have pf2 := frozen_at (j := 2) h0
  clear h0
  have hX : w20.heap[X]? = some (.cells #[.string ⟨F.nm.toArray⟩, .int .i64 F.A, .slice ra F.n rc] 26 (0, 0)) := HS20.out.get (k := 2) (by simp)
  have hY : w20.heap[Y]? = some (.cells #[.string ⟨F.nm.toArray⟩, .int .i64 F.A, .int .i64 F.n, .int .i64 F.ts.length, .int .i64 F.d, .slice pa F.A pc] 35 (0, 0)) := HS20.out.get (k := 3) (by simp)
  have x0 := cell_at (j := 0) hX rfl; have x1 := cell_at (j := 1) hX rfl; have x2 := cell_at (j := 2) hX rfl; have y0 := cell_at (j := 0) hY rfl; have y1 := cell_at (j := 1) hY rfl; have y2 := cell_at (j := 2) hY rfl; have y3 := cell_at (j := 3) hY rfl; have y4 := cell_at (j := 4) hY rfl; have y5 := cell_at (j := 5) hY rfl
  clear hX hY
  go_wp2_with (first
    | (refine ord_pure rfl rfl rfl (fun K hK => ?_); go_big_quiet_op; refine hK _ ?_; clear hK K)
                                                                | (refine ord_skip rfl rfl ?_; simp only [Act.put, List.setIfInBounds_toArray, List.set_cons_zero, List.set_cons_succ])
                                                                | (refine ord_held rfl rfl rfl (⟨⟨x0, x1, x2⟩, y0, y1, y2, y3, y4, y5⟩) (fun K hK => ?_); apply Exists.intro; refine ⟨fun w' hs => ?_, hK _ ?_⟩; (revert hs; dsimp only; (try simp only [and_imp]); intros; go_simp; rfl); clear hK K)
                                                                | (refine ord_keep rfl rfl (⟨⟨x0, x1, x2⟩, y0, y1, y2, y3, y4, y5⟩) (fun K hK => ?_))
                                                                | (refine ord_drop rfl rfl (fun K hK => ?_))
                                                                | (refine ord_nil ?_))
  have HS21 : Hid (RS w ((((w20).setCell ⟨B, 0, none⟩ (.string ⟨F.nm.toArray⟩)).setCell ⟨B, 1, none⟩ (.int .i64 F.A)).setCell ⟨B, 2, none⟩ (.slice ra F.n rc)) [boxI B #[.string ⟨F.nm.toArray⟩, .int .i64 F.A, .slice ra F.n rc] 26, boxI (B + 1) #[.string ⟨#[]⟩, .int .i64 0, .int .i64 0, .int .i64 0, .int .i64 0, .slice none 0 0] 35, boxI X #[.string ⟨F.nm.toArray⟩, .int .i64 F.A, .slice ra F.n rc] 26, boxI Y #[.string ⟨F.nm.toArray⟩, .int .i64 F.A, .int .i64 F.n, .int .i64 F.ts.length, .int .i64 F.d, .slice pa F.A pc] 35]) := Lib.hid (RS.cell (RS.cell (RS.cell HS20.out (k := 0) (by simp) rfl 0 (.string ⟨F.nm.toArray⟩)) (k := 0) (by simp) rfl 1 (.int .i64 F.A)) (k := 0) (by simp) rfl 2 (.slice ra F.n rc))
  have HM21 := Lib.hid ((((HM20.out).setCell (p := ⟨B, 0, none⟩) (fun _ => .inl rfl) (.string ⟨F.nm.toArray⟩)).setCell (p := ⟨B, 1, none⟩) (fun _ => .inl rfl) (.int .i64 F.A)).setCell (p := ⟨B, 2, none⟩) (fun _ => .inl rfl) (.slice ra F.n rc))
  clear pc0 pf0 pc1 pf1 pc2 pf2 x0 x1 x2 y0 y1 y2 y3 y4 y5 HM20
  generalize (((w20).setCell ⟨B, 0, none⟩ (.string ⟨F.nm.toArray⟩)).setCell ⟨B, 1, none⟩ (.int .i64 F.A)).setCell ⟨B, 2, none⟩ (.slice ra F.n rc) = w21 at *
  have hX : w21.heap[X]? = some (.cells #[.string ⟨F.nm.toArray⟩, .int .i64 F.A, .slice ra F.n rc] 26 (0, 0)) := HS21.out.get (k := 2) (by simp)
  have hY : w21.heap[Y]? = some (.cells #[.string ⟨F.nm.toArray⟩, .int .i64 F.A, .int .i64 F.n, .int .i64 F.ts.length, .int .i64 F.d, .slice pa F.A pc] 35 (0, 0)) := HS21.out.get (k := 3) (by simp)
  have x0 := cell_at (j := 0) hX rfl; have x1 := cell_at (j := 1) hX rfl; have x2 := cell_at (j := 2) hX rfl; have y0 := cell_at (j := 0) hY rfl; have y1 := cell_at (j := 1) hY rfl; have y2 := cell_at (j := 2) hY rfl; have y3 := cell_at (j := 3) hY rfl; have y4 := cell_at (j := 4) hY rfl; have y5 := cell_at (j := 5) hY rfl
  clear hX hY
  refine hK _ _ ⟨⟨x0, x1, x2⟩, y0, y1, y2, y3, y4, y5⟩ ?_
  clear hK K
  have h1 : w21.heap[B + 1]? = some (.cells #[.string ⟨#[]⟩, .int .i64 0, .int .i64 0, .int .i64 0, .int .i64 0, .slice none 0 0] 35 (0, 0)) := HS21.out.get (k := 1) (by simp)
  have qc0 := cell_at (j := 0) h1 rfl; have qf0 := frozen_at (j := 0) h1; have qc1 := cell_at (j := 1) h1 rfl; have qf1 := frozen_at (j := 1) h1; have qc2 := cell_at (j := 2) h1 rfl; have qf2 := frozen_at (j := 2) h1; have qc3 := cell_at (j := 3) h1 rfl; have qf3 := frozen_at (j := 3) h1; have qc4 := cell_at (j := 4) h1 rfl; have qf4 := frozen_at (j := 4) h1; have qc5 := cell_at (j := 5) h1 rfl; have qf5 := frozen_at (j := 5) h1
  clear h1
  go_wp2_with (first
    | (refine ord_pure rfl rfl rfl (fun K hK => ?_); go_big_quiet_op; refine hK _ ?_; clear hK K)
                                                                | (refine ord_skip rfl rfl ?_; simp only [Act.put, List.setIfInBounds_toArray, List.set_cons_zero, List.set_cons_succ])
                                                                | (refine ord_held rfl rfl rfl (⟨⟨x0, x1, x2⟩, y0, y1, y2, y3, y4, y5⟩) (fun K hK => ?_); apply Exists.intro; refine ⟨fun w' hs => ?_, hK _ ?_⟩; (revert hs; dsimp only; (try simp only [and_imp]); intros; go_simp; rfl); clear hK K)
                                                                | (refine ord_keep rfl rfl (⟨⟨x0, x1, x2⟩, y0, y1, y2, y3, y4, y5⟩) (fun K hK => ?_))
                                                                | (refine ord_drop rfl rfl (fun K hK => ?_))
                                                                | (refine ord_nil ?_))
  have HS22 : Hid (RS w (((((((w21).setCell ⟨B + 1, 0, none⟩ (.string ⟨F.nm.toArray⟩)).setCell ⟨B + 1, 1, none⟩ (.int .i64 F.A)).setCell ⟨B + 1, 2, none⟩ (.int .i64 F.n)).setCell ⟨B + 1, 3, none⟩ (.int .i64 F.ts.length)).setCell ⟨B + 1, 4, none⟩ (.int .i64 F.d)).setCell ⟨B + 1, 5, none⟩ (.slice pa F.A pc)) [boxI B #[.string ⟨F.nm.toArray⟩, .int .i64 F.A, .slice ra F.n rc] 26, boxI (B + 1) #[.string ⟨F.nm.toArray⟩, .int .i64 F.A, .int .i64 F.n, .int .i64 F.ts.length, .int .i64 F.d, .slice pa F.A pc] 35, boxI X #[.string ⟨F.nm.toArray⟩, .int .i64 F.A, .slice ra F.n rc] 26, boxI Y #[.string ⟨F.nm.toArray⟩, .int .i64 F.A, .int .i64 F.n, .int .i64 F.ts.length, .int .i64 F.d, .slice pa F.A pc] 35]) := Lib.hid (RS.cell (RS.cell (RS.cell (RS.cell (RS.cell (RS.cell HS21.out (k := 1) (by simp) rfl 0 (.string ⟨F.nm.toArray⟩)) (k := 1) (by simp) rfl 1 (.int .i64 F.A)) (k := 1) (by simp) rfl 2 (.int .i64 F.n)) (k := 1) (by simp) rfl 3 (.int .i64 F.ts.length)) (k := 1) (by simp) rfl 4 (.int .i64 F.d)) (k := 1) (by simp) rfl 5 (.slice pa F.A pc))
  have HM22 := Lib.hid (((((((HM21.out).setCell (p := ⟨B + 1, 0, none⟩) (fun _ => .inr rfl) (.string ⟨F.nm.toArray⟩)).setCell (p := ⟨B + 1, 1, none⟩) (fun _ => .inr rfl) (.int .i64 F.A)).setCell (p := ⟨B + 1, 2, none⟩) (fun _ => .inr rfl) (.int .i64 F.n)).setCell (p := ⟨B + 1, 3, none⟩) (fun _ => .inr rfl) (.int .i64 F.ts.length)).setCell (p := ⟨B + 1, 4, none⟩) (fun _ => .inr rfl) (.int .i64 F.d)).setCell (p := ⟨B + 1, 5, none⟩) (fun _ => .inr rfl) (.slice pa F.A pc))
  clear qc0 qf0 qc1 qf1 qc2 qf2 qc3 qf3 qc4 qf4 qc5 qf5 x0 x1 x2 y0 y1 y2 y3 y4 y5 HM21
  generalize ((((((w21).setCell ⟨B + 1, 0, none⟩ (.string ⟨F.nm.toArray⟩)).setCell ⟨B + 1, 1, none⟩ (.int .i64 F.A)).setCell ⟨B + 1, 2, none⟩ (.int .i64 F.n)).setCell ⟨B + 1, 3, none⟩ (.int .i64 F.ts.length)).setCell ⟨B + 1, 4, none⟩ (.int .i64 F.d)).setCell ⟨B + 1, 5, none⟩ (.slice pa F.A pc) = wz at *
  have h0 : wz.heap[B]? = some (.cells #[.string ⟨F.nm.toArray⟩, .int .i64 F.A, .slice ra F.n rc] 26 (0, 0)) := HS22.out.get (k := 0) (by simp)
  have h1 : wz.heap[B + 1]? = some (.cells #[.string ⟨F.nm.toArray⟩, .int .i64 F.A, .int .i64 F.n, .int .i64 F.ts.length, .int .i64 F.d, .slice pa F.A pc] 35 (0, 0)) := HS22.out.get (k := 1) (by simp)
  have pc0 := cell_at (j := 0) h0 rfl; have pf0 := frozen_at (j := 0) h0; have pc1 := cell_at (j := 1) h0 rfl; have pf1 := frozen_at (j := 1) h0; have pc2 := cell_at (j := 2) h0 rfl; have pf2 := frozen_at (j := 2) h0; have qc0 := cell_at (j := 0) h1 rfl; have qf0 := frozen_at (j := 0) h1; have qc1 := cell_at (j := 1) h1 rfl; have qf1 := frozen_at (j := 1) h1; have qc2 := cell_at (j := 2) h1 rfl; have qf2 := frozen_at (j := 2) h1; have qc3 := cell_at (j := 3) h1 rfl; have qf3 := frozen_at (j := 3) h1; have qc4 := cell_at (j := 4) h1 rfl; have qf4 := frozen_at (j := 4) h1; have qc5 := cell_at (j := 5) h1 rfl; have qf5 := frozen_at (j := 5) h1
  have hlast : GPost l w (.returned (.tuple #[.agg #[.string ⟨F.nm.toArray⟩, .int .i64 F.A, .slice ra F.n rc], .agg #[.string ⟨F.nm.toArray⟩, .int .i64 F.A, .int .i64 F.n, .int .i64 F.ts.length, .int .i64 F.d, .slice pa F.A pc], .int .i64 0])) wz := ⟨.inr ⟨F, ra, rc, pa, pc, ⟨HH.out, HPA.out, HFI.out⟩, rfl, ⟨hs, HRL.out.close HMW4.out ((HM7.out.mono fun _ _ e => e.elim).trans HM22.out) (fun b hb => hb) (fun b hb => by have h1 := HB.out; have h2 := HB4.out; rcases hb with rfl | rfl <;> omega)⟩, HRP.out.mod HM22.out (fun b hb e => by have h1 := HPF.out b hb; have h2 := HXB.out; rcases e with rfl | rfl <;> omega), fun b hb => by have h1 := HPF.out b hb; have h2 := HXB.out; have h3 := HB.out; omega⟩, HS22.out.md⟩
  refine bodyPost_ret (v := .tuple #[.agg #[.string ⟨F.nm.toArray⟩, .int .i64 F.A, .slice ra F.n rc], .agg #[.string ⟨F.nm.toArray⟩, .int .i64 F.A, .int .i64 F.n, .int .i64 F.ts.length, .int .i64 F.d, .slice pa F.A pc], .int .i64 0]) ?_ rfl hlast
  clear hlast
  simp [results, Tryz.results7, go_sem, pc0, pc1, pc2, qc0, qc1, qc2, qc3, qc4, qc5]
end Go.Proofs.YtelfakglaghfoaaGreat
/-
  What Decode, Look and the document's Read answer: the same.
-/
namespace Go.Proofs.YtelfakglaghfoaaGreat
open Go Go.RowKit Go.Mine
set_option linter.unusedVariables false

structure Ans where
  nm : ByteArray
  A : Nat
  nr : Nat
  T : Nat
  d : Nat
  np : Nat
  k : Nat
  m : Nat
  rows : List (List ByteArray)
  ps : List Nat
structure AnsOk (R : Ans) : Prop where
  rl : R.rows.length = R.nr
  ml : ∀ r ∈ R.rows, r.length = R.m
  pl : R.ps.length = R.np
  mb : R.m ≤ 64
  nb : R.nr ≤ 65536
  pb : R.np ≤ 64
  e : R.k = 0 ∨ ((R.k = 3 ∨ R.k = 70 ∨ R.k = 71) ∧ R.nm = ⟨#[]⟩ ∧ R.A = 0 ∧ R.nr = 0)
def DecA (R : Ans) (w : World) (e : Ending) (w' : World) : Prop := ∃ ra rc hs, e = .returned (.tuple #[.agg #[.string R.nm, .int .i64 R.A, .slice ra R.nr rc], .int .i64 R.k]) ∧ LL (fun b => w.heap.size ≤ b) w w' 52 ra rc hs (R.rows.map sts)
def LkA (R : Ans) (w : World) (e : Ending) (w' : World) : Prop := ∃ pa pc, e = .returned (.tuple #[.agg #[.string R.nm, .int .i64 R.A, .int .i64 R.nr, .int .i64 R.T, .int .i64 R.d, .slice pa R.np pc], .int .i64 R.k]) ∧ Rd w' pa (ns R.ps) ∧ Mod (fun _ => False) w w'
def RdA (R : Ans) (w : World) (e : Ending) (w' : World) : Prop := ∃ ra rc hs pa pc, e = .returned (.tuple #[.agg #[.string R.nm, .int .i64 R.A, .slice ra R.nr rc], .agg #[.string R.nm, .int .i64 R.A, .int .i64 R.nr, .int .i64 R.T, .int .i64 R.d, .slice pa R.np pc], .int .i64 R.k]) ∧
  LL (fun b => w.heap.size ≤ b) w w' 52 ra rc hs (R.rows.map sts) ∧ Rd w' pa (ns R.ps)
theorem headF_vals (l : List UInt8) : headF l = 0 ∨ headF l = 3 ∨ headF l = 70 ∨ headF l = 71 := by
  unfold headF
  split
  · simp
  · split
    · simp
    · split
      · simp
      · split <;> simp
theorem answers (l : List UInt8) : ∃ R, AnsOk R ∧ (∀ w e w', DPost l w e w' → DecA R w e w') ∧ (∀ w e w', LkPost l w e w' → LkA R w e w') ∧ (∀ w e w', GPost l w e w' → RdA R w e w') := by
  by_cases hg : ∃ F, GoodF l F
  · obtain ⟨F, hF⟩ := hg
    have K := hF.2.1.facts
    have nob : ∀ k, ¬ BadF l k := fun k hb => by
      rcases hb with ⟨h1, _⟩ | ⟨_, h1, _⟩
      · exact h1 hF.1
      · exact h1 F hF.2.1 hF.2.2
    refine ⟨⟨⟨F.nm.toArray⟩, F.A, F.n, F.ts.length, F.d, F.A, 0, F.A, rowsF F.ts F.cs F.n, F.ps⟩, ⟨rowsF_length _ _ _, fun r hr => ?_, by rw [K.ps, List.length_map]; exact K.len, hF.2.1.arl, hF.2.1.nrl, hF.2.1.arl, .inl rfl⟩, fun w e w' h => ?_, fun w e w' h => ?_, fun w e w' h => ?_⟩
    · obtain ⟨i, _, rfl⟩ := List.mem_map.1 hr
      rw [rowF_len, K.len]
    · rcases h.1 with ⟨k, hb, _⟩ | ⟨G, ra, rc, hG, he, hs, hL⟩
      · exact absurd hb (nob k)
      · obtain rfl := hG.2.1.same hF.2.1
        exact ⟨ra, rc, hs, he, hL⟩
    · rcases h.1 with ⟨k, hb, _⟩ | ⟨G, pa, pc, hG, he, hp⟩
      · exact absurd hb (nob k)
      · obtain rfl := hG.2.1.same hF.2.1
        exact ⟨pa, pc, he, hp, h.2⟩
    · rcases h.1 with ⟨k, hb, _⟩ | ⟨G, ra, rc, pa, pc, hG, he, ⟨hs, hL⟩, hp, _⟩
      · exact absurd hb (nob k)
      · obtain rfl := hG.2.1.same hF.2.1
        exact ⟨ra, rc, hs, pa, pc, he, hL, hp⟩
  · obtain ⟨k, hk⟩ : ∃ k, k = if headF l = 0 then 70 else headF l := ⟨_, rfl⟩
    have hdet : ∀ k', BadF l k' → k' = k := fun k' hb => by
      rcases hb with ⟨h1, h2⟩ | ⟨h1, _, h2⟩
      · rw [hk, if_neg h1]; exact h2
      · rw [hk, if_pos h1]; exact h2
    have hkv : k = 3 ∨ k = 70 ∨ k = 71 := by
      rw [hk]
      split
      · simp
      · rcases headF_vals l with h | h | h | h
        · exact absurd h ‹_›
        · exact .inl h
        · exact .inr (.inl h)
        · exact .inr (.inr h)
    refine ⟨⟨⟨#[]⟩, 0, 0, 0, 0, 0, k, 0, [], []⟩, ⟨rfl, (fun r hr => by cases hr), rfl, Nat.zero_le _, Nat.zero_le _, Nat.zero_le _, .inr ⟨hkv, rfl, rfl, rfl⟩⟩, fun w e w' h => ?_, fun w e w' h => ?_, fun w e w' h => ?_⟩
    · rcases h.1 with ⟨k', hb, he⟩ | ⟨G, ra, rc, hG, _⟩
      · obtain rfl := hdet k' hb
        exact ⟨none, 0, [], he, (LL.nil _ _ w).mod0 h.2⟩
      · exact absurd ⟨G, hG⟩ hg
    · rcases h.1 with ⟨k', hb, he⟩ | ⟨G, pa, pc, hG, _⟩
      · obtain rfl := hdet k' hb
        exact ⟨none, 0, he, Rd.nil _ _, h.2⟩
      · exact absurd ⟨G, hG⟩ hg
    · rcases h.1 with ⟨k', hb, he⟩ | ⟨G, ra, rc, pa, pc, hG, _⟩
      · obtain rfl := hdet k' hb
        exact ⟨none, 0, [], none, 0, he, (LL.nil _ _ w).mod0 h.2, Rd.nil _ _⟩
      · exact absurd ⟨G, hG⟩ hg
end Go.Proofs.YtelfakglaghfoaaGreat
/-
  Law 7: ColfileDecodes, walked.
-/
namespace Go.Proofs.YtelfakglaghfoaaGreat
open Go Go.RowKit Go.Mine
set_option linter.unusedVariables false
set_option maxHeartbeats 8000000
set_option maxRecDepth 100000

theorem LL.llr {F S : Nat → Prop} {w0 w w' : World} {e : TypeId} {oa : Option Addr} {oc : Nat} {hs : List Value} {xs : List (List Value)} (h : LL F w0 w e oa oc hs xs) (m : Mod S w w') (hF : ∀ b, F b → ¬ S b) (hO : ∀ b, blk oa = some b → ¬ S b) : LLR w' oa hs xs :=
  ⟨h.len, h.own.rd.mod m hO, fun j hj => by
    obtain ⟨x, c, h1, h2, h3⟩ := h.row j hj
    exact ⟨x, c, h1, h2.mod m fun b hb => hF b (h3 b hb).1⟩⟩
theorem colfileDecodes_walk (a : Option Addr) (c : Nat) (l : List UInt8) (w : World) (hr : Rd w a (bts l)) (hn : l.length ≤ 1048576) :
    Calls Tryz.prog 3 #[.slice a l.length c] w fun e w' => e = .returned (.bool true) ∧ Mod (fun _ => False) w w' := by
  have HLE := Lib.hid (lent7_any a c l w hr (by omega))
  clear hr
  obtain ⟨n, hnn⟩ : ∃ n, n = l.length := ⟨_, rfl⟩
  rw [← hnn] at HLE hn ⊢
  have HNN := Lib.hid hnn
  clear hnn
  go_enter Tryz.func3, Tryz.ntmps3
  go_wp2_with fail
  refine HLE.out.mono ?_
  rintro e w1 ⟨g, gc, rfl, hL, hm1, hg⟩
  have HL1 := Lib.hid hL
  have HM1 := Lib.hid hm1
  have HG := Lib.hid hg
  clear hL hm1 hg HLE
  go_wp2_with fail
  go_loopw [4] (fun t wr => ∃ (k : Nat) (xs : List UInt8), k ≤ 2 ∧ t = .int .i64 k ∧ Hid (xs.length = n) ∧ Hid (Lent7 wr g gc xs) ∧ Hid (Mod (fun _ => False) w wr)) (fun t _ => 2 - (intOf t).toNat)
  case atStart => exact ⟨0, l, by omega, rfl, Lib.hid HNN.out.symm, HL1, HM1⟩
  case round =>
    clear HL1 HM1
    obtain ⟨k, xs, hk, rfl, hxl, hL, hM⟩ := hrel
    by_cases hlt : k < 2
    · obtain ⟨R, hok, hdec, hlk, hrd⟩ := answers xs
      have HLE := Lib.hid (lent7_any (some ⟨g, 0, none⟩) gc xs wr hL.out.rd (by rw [hxl.out]; omega))
      rw [hxl.out] at HLE
      have HDC := Lib.hid (fun W (mW : Mod (fun _ => False) wr W) => (decodeF_any (some ⟨g, 0, none⟩) gc xs W (hL.out.rd.mod mW fun _ _ => id) (by have := hL.out.2; omega) (by rw [hxl.out]; omega)).mono fun e w' h => hdec W e w' h)
      have HLK := Lib.hid (fun W (mW : Mod (fun _ => False) wr W) => (look_any (some ⟨g, 0, none⟩) gc xs W (hL.out.rd.mod mW fun _ _ => id) (by have := hL.out.2; omega) (by rw [hxl.out]; omega)).mono fun e w' h => hlk W e w' h)
      have HRD := Lib.hid (fun W g2 c2 (h : Lent7 W g2 c2 xs) => (refRead7_any (some ⟨g2, 0, none⟩) c2 xs W h.rd (by have := h.2; omega) (by rw [hxl.out]; omega)).mono fun e w' h => hrd W e w' h)
      rw [hxl.out] at HDC HLK HRD
      have HOK := Lib.hid hok
      have hmb := hok.mb; have hnb := hok.nb; have hpb := hok.pb
      clear hok hdec hlk hrd
      obtain ⟨nm, A, nr, T, d, np, ek, m, rows, ps⟩ := R
      simp only at hmb hnb hpb
      unfold DecA at HDC
      unfold LkA at HLK
      unfold RdA at HRD
      simp only at HDC HLK HRD
      rename World => wq
      go_wp2_with fail
      refine HLE.out.mono ?_
      clear HLE
      rintro e w2 ⟨g2, c2, rfl, hL2, hm2, hg2⟩
      have HL2 := Lib.hid hL2
      have HG2 := Lib.hid hg2
      have HM2 := Lib.hid hm2
      clear hL2 hm2 hg2
      go_wp2_with fail
      refine (HDC.out w2 HM2.out).mono ?_
      clear HDC
      rintro e w3 ⟨ra, rc, rhs, rfl, hR⟩
      have HR := Lib.hid hR
      have HB3 : Hid (RS w2 (w3.alloc (.cells #[.string nm, .int .i64 A, .slice ra nr rc] 26)) [boxI w3.heap.size #[.string nm, .int .i64 A, .slice ra nr rc] 26]) := Lib.hid (by
        have h0 : RS w2 w3 [] := ⟨Fam.nil hR.md.size, hR.md⟩
        exact h0.push (i' := boxI w3.heap.size #[.string nm, .int .i64 A, .slice ra nr rc] 26) ((Mod.refl _ w3).alloc _) (heap_alloc_new w3 _) (fun b hb => Nat.le_of_eq (Eq.symm hb)))
      have HM34 := Lib.hid ((Mod.refl (fun _ => False) w3).alloc (.cells #[.string nm, .int .i64 A, .slice ra nr rc] 26))
      clear hR
      go_wp2_with fail
      obtain ⟨X1, hX1⟩ : ∃ X1, X1 = w3.heap.size := ⟨_, rfl⟩
      rw [← hX1] at HB3 ⊢
      clear hX1
      generalize w3.alloc (.cells #[.string nm, .int .i64 A, .slice ra nr rc] 26) = w4 at *
      refine (HLK.out w4 (HM2.out.step HB3.out.md fun _ _ e => e)).mono ?_
      clear HLK
      rintro e w5 ⟨pa, pc, rfl, hP, hm5⟩
      have HP := Lib.hid hP
      have HB5 := Lib.hid ((HB3.out.mod0 hm5).push (i' := boxI w5.heap.size #[.string nm, .int .i64 A, .int .i64 nr, .int .i64 T, .int .i64 d, .slice pa np pc] 32) ((Mod.refl _ w5).alloc (.cells #[.string nm, .int .i64 A, .int .i64 nr, .int .i64 T, .int .i64 d, .slice pa np pc] 32)) (heap_alloc_new w5 _) (fun b hb => Nat.le_of_eq (Eq.symm hb)))
      have HM56 := Lib.hid ((Mod.refl (fun _ => False) w5).alloc (.cells #[.string nm, .int .i64 A, .int .i64 nr, .int .i64 T, .int .i64 d, .slice pa np pc] 32))
      have HM35 := Lib.hid (HM34.out.step hm5 fun _ _ e => e)
      clear hP hm5 HB3
      go_wp2_with fail
      obtain ⟨X2, hX2⟩ : ∃ X2, X2 = w5.heap.size := ⟨_, rfl⟩
      rw [← hX2] at HB5 ⊢
      clear hX2
      generalize w5.alloc (.cells #[.string nm, .int .i64 A, .int .i64 nr, .int .i64 T, .int .i64 d, .slice pa np pc] 32) = w6 at *
      refine (HRD.out w6 g2 c2 (HL2.out.mod HB5.out.md id)).mono ?_
      clear HRD
      rintro e w7 ⟨sa, sc, shs, qa, qc, rfl, hS, hQ⟩
      have HSL := Lib.hid hS
      have HQ := Lib.hid hQ
      have hw26 : Hid (w2.heap.size ≤ w6.heap.size) := Lib.hid HB5.out.md.size
      have HB7 := Lib.hid (((HB5.out.mod0 hS.md).push (i' := boxI w7.heap.size #[.string nm, .int .i64 A, .slice sa nr sc] 26) ((Mod.refl _ w7).alloc (.cells #[.string nm, .int .i64 A, .slice sa nr sc] 26)) (heap_alloc_new w7 _) (fun b hb => Nat.le_of_eq (Eq.symm hb))).push
        (i' := boxI (w7.heap.size + 1) #[.string nm, .int .i64 A, .int .i64 nr, .int .i64 T, .int .i64 d, .slice qa np qc] 35) ((Mod.refl _ _).alloc (.cells #[.string nm, .int .i64 A, .int .i64 nr, .int .i64 T, .int .i64 d, .slice qa np qc] 35))
        (by have h := heap_alloc_new (w7.alloc (.cells #[.string nm, .int .i64 A, .slice sa nr sc] 26)) (.cells #[.string nm, .int .i64 A, .int .i64 nr, .int .i64 T, .int .i64 d, .slice qa np qc] 35); rw [show (w7.alloc (.cells #[.string nm, .int .i64 A, .slice sa nr sc] 26)).heap.size = w7.heap.size + 1 by simp] at h; exact h)
        (fun b hb => Nat.le_of_eq (by rw [show b = w7.heap.size + 1 from hb]; simp)))
      have HM78 := Lib.hid (((Mod.refl (fun _ => False) w7).alloc (.cells #[.string nm, .int .i64 A, .slice sa nr sc] 26)).alloc (.cells #[.string nm, .int .i64 A, .int .i64 nr, .int .i64 T, .int .i64 d, .slice qa np qc] 35))
      have HM58 := Lib.hid ((HM56.out.step hS.md fun _ _ e => e).step HM78.out fun _ _ e => e)
      clear hS hQ HB5
      go_upto_region 9 with fail
      obtain ⟨X3, hX3⟩ : ∃ X3, X3 = w7.heap.size := ⟨_, rfl⟩
      rw [← hX3] at HB7 ⊢
      clear hX3
      obtain ⟨X4, hX4⟩ : ∃ X4, X4 = X3 + 1 := ⟨_, rfl⟩
      rw [← hX4] at HB7 ⊢
      clear hX4
      generalize (w7.alloc (.cells #[.string nm, .int .i64 A, .slice sa nr sc] 26)).alloc (.cells #[.string nm, .int .i64 A, .int .i64 nr, .int .i64 T, .int .i64 d, .slice qa np qc] 35) = w8 at *
      have HB8 : Hid (RS w2 w8 [boxI X1 #[.string nm, .int .i64 A, .slice ra nr rc] 26, boxI X2 #[.string nm, .int .i64 A, .int .i64 nr, .int .i64 T, .int .i64 d, .slice pa np pc] 32, boxI X3 #[.string nm, .int .i64 A, .slice sa nr sc] 26, boxI X4 #[.string nm, .int .i64 A, .int .i64 nr, .int .i64 T, .int .i64 d, .slice qa np qc] 35]) := HB7
      clear HB7
      have ha : w8.heap[X1]? = some (.cells #[.string nm, .int .i64 A, .slice ra nr rc] 26 (0, 0)) := HB8.out.get (k := 0) (by simp)
      have a0 := cell_at (j := 0) ha rfl; have a1 := cell_at (j := 1) ha rfl; have a2 := cell_at (j := 2) ha rfl
      clear ha
      have hc : w8.heap[X3]? = some (.cells #[.string nm, .int .i64 A, .slice sa nr sc] 26 (0, 0)) := HB8.out.get (k := 2) (by simp)
      have c0 := cell_at (j := 0) hc rfl; have c1 := cell_at (j := 1) hc rfl; have c2 := cell_at (j := 2) hc rfl
      clear hc
      have HM38 := Lib.hid (HM35.out.step HM58.out fun _ _ e => e)
      have HSM := Lib.hid (same7_any nm A nr m ra sa rc sc rhs shs rows w8 (HR.out.rd.mod0 HM38.out) (HSL.out.rd.mod0 HM78.out) HOK.out.ml (by omega) HOK.out.rl (by omega))
      go_wp2_with fail
      clear a0 a1 a2 c0 c1 c2
      refine HSM.out.mono ?_
      clear HSM
      rintro e w9 ⟨rfl, hm9⟩
      have HB9 := Lib.hid (HB8.out.mod0 hm9)
      have HM9 := Lib.hid hm9
      clear hm9 HB8
      have hb : w9.heap[X2]? = some (.cells #[.string nm, .int .i64 A, .int .i64 nr, .int .i64 T, .int .i64 d, .slice pa np pc] 32 (0, 0)) := HB9.out.get (k := 1) (by simp)
      have b0 := cell_at (j := 0) hb rfl; have b1 := cell_at (j := 1) hb rfl; have b2 := cell_at (j := 2) hb rfl; have b3 := cell_at (j := 3) hb rfl; have b4 := cell_at (j := 4) hb rfl; have b5 := cell_at (j := 5) hb rfl
      clear hb
      have hd : w9.heap[X4]? = some (.cells #[.string nm, .int .i64 A, .int .i64 nr, .int .i64 T, .int .i64 d, .slice qa np qc] 35 (0, 0)) := HB9.out.get (k := 3) (by simp)
      have d0 := cell_at (j := 0) hd rfl; have d1 := cell_at (j := 1) hd rfl; have d2 := cell_at (j := 2) hd rfl; have d3 := cell_at (j := 3) hd rfl; have d4 := cell_at (j := 4) hd rfl; have d5 := cell_at (j := 5) hd rfl
      clear hd
      have HNU := Lib.hid (numbers7_any pa qa pc qc ps np w9 (((HP.out.mod HM58.out fun _ _ => id)).mod HM9.out fun _ _ => id) ((HQ.out.mod HM78.out fun _ _ => id).mod HM9.out fun _ _ => id) HOK.out.pl (by omega))
      have e1 : ((ek : Int) == (ek : Int)) = true := by simp
      go_wp2_with fail
      clear b0 b1 b2 b3 b4 b5 d0 d1 d2 d3 d4 d5
      refine HNU.out.mono ?_
      clear HNU
      rintro e w10 ⟨rfl, hm10⟩
      have HB10 := Lib.hid (HB9.out.mod0 hm10)
      have HM10 := Lib.hid (HM9.out.step hm10 fun _ _ e => e)
      clear hm10 HB9 HM9
      have HKE := Lib.hid (kept7_any g gc (some ⟨g2, 0, none⟩) c2 xs w10 ((hL.out.mod HM2.out id).mod HB10.out.md id) ((HL2.out.mod HB10.out.md id).rd) (by rw [hxl.out]; omega))
      rw [hxl.out] at HKE
      go_wp2_with fail
      refine HKE.out.mono ?_
      clear HKE
      rintro e w11 ⟨rfl, hw11⟩
      obtain rfl : w10 = w11 := hw11
      have ha : w10.heap[X1]? = some (.cells #[.string nm, .int .i64 A, .slice ra nr rc] 26 (0, 0)) := HB10.out.get (k := 0) (by simp)
      have a0 := cell_at (j := 0) ha rfl; have a1 := cell_at (j := 1) ha rfl; have a2 := cell_at (j := 2) ha rfl
      clear ha
      go_upto_region 11 with fail
      go_cut [130] from 16 to 148 (fun v wx => v = .bool false ∧ wx = w10)
      case first =>
        have he := HOK.out.e
        simp only at he
        clear HR HSL HP HQ HOK
        rcases he with he | ⟨he, h1, h2, h3⟩
        · subst he
          go_wp2_with fail
          go_meet
          case rel => exact ⟨rfl, rfl⟩
        · subst h1; subst h2; subst h3
          rcases he with he | he | he
          · subst he
            go_wp2_with fail
            go_meet
            case rel => exact ⟨rfl, rfl⟩
          · subst he
            go_wp2_with fail
            go_meet
            case rel => exact ⟨rfl, rfl⟩
          · subst he
            go_wp2_with fail
            go_meet
            case rel => exact ⟨rfl, rfl⟩
      case rest =>
        obtain ⟨hv, hwc⟩ := hcut
        subst hv
        subst hwc
        clear a0 a1 a2 e1
        have hgq : g < wq.heap.size := hL.out.1.lt g rfl
        have hgw2 : g < w2.heap.size := Nat.lt_of_lt_of_le hgq HM2.out.size
        have HGW := Lib.hid hgw2
        have HLW := Lib.hid ((hL.out.mod HM2.out id).mod HB10.out.md id)
        have HWG : Hid (w.heap.size ≤ g) := HG
        have HMD := Lib.hid ((hM.out.step HM2.out fun _ _ e => e).step HB10.out.md fun _ _ e => e)
        have HM3c := Lib.hid (HM38.out.step HM10.out fun _ _ e => e)
        have HM7c := Lib.hid (HM78.out.step HM10.out fun _ _ e => e)
        have HX1 : Hid (wc.heap[X1]? = some (.cells #[.string nm, .int .i64 A, .slice ra nr rc] 26 (0, 0)) ∧ g ≠ X1) := Lib.hid ⟨HB10.out.get (k := 0) (by simp), fun e => by have h1 := HB10.out.fam.lo (boxI X1 #[.string nm, .int .i64 A, .slice ra nr rc] 26) (by simp) X1 rfl; omega⟩
        have HX3 : Hid (wc.heap[X3]? = some (.cells #[.string nm, .int .i64 A, .slice sa nr sc] 26 (0, 0)) ∧ g ≠ X3) := Lib.hid ⟨HB10.out.get (k := 2) (by simp), fun e => by have h1 := HB10.out.fam.lo (boxI X3 #[.string nm, .int .i64 A, .slice sa nr sc] 26) (by simp) X3 rfl; omega⟩
        have HR2 := Lib.hid (HR.out.mod0 HM3c.out)
        have HS2 := Lib.hid (HSL.out.mod0 HM7c.out)
        clear hL hM HL2 HM2 HB10 HM3c HM7c HR HSL HP HQ HM34 HM35 HM56 HM58 HM78 HM38 HM10 HG2 hgq hgw2
        go_wp2_with fail
        go_loopw [13] (fun iv wr => ∃ (j : Nat) (ys : List UInt8), j ≤ n ∧ iv = .int .i64 j ∧ Hid (ys.length = n) ∧ Hid (Lent7 wr g gc ys) ∧ Hid (Mod (fun b => b = g) wc wr)) (fun iv _ => n - (intOf iv).toNat)
        case atStart => exact ⟨0, xs, Nat.zero_le _, rfl, hxl, HLW, Lib.hid (Mod.refl _ _)⟩
        case round =>
          obtain ⟨j, ys, hj, rfl, hyl, hLy, hMy⟩ := hrel
          by_cases hjl : j < n
          · have hjy : j < ys.length := by rw [hyl.out]; exact hjl
            have hcj : wr.cell? ⟨g, j, none⟩ = some (.int .u8 ys[j].toNat) := by
              obtain ⟨b, o, e, hc⟩ := hLy.out.1.rd j (.int .u8 ys[j].toNat) (by simp [bts, List.getElem?_append_left, hjy])
              cases e
              simpa using hc
            have hfj := hLy.out.1.frozen (b := g) (o := j) rfl
            generalize hy : ys[j] = y at *
            have HY := Lib.hid hy
            clear hy
            go_wp2_with fail
            go_roundw
            case rel =>
              have e8 : (((y.toNat : Int) + 91) % 256) = ((y + 91).toNat : Int) := by rw [UInt8.toNat_add]; simp
              rw [e8]
              have hst := hLy.out.1.store j (.int .u8 (y + 91).toNat)
              have e : (bts (ys ++ [201, 202])).set j (.int .u8 (y + 91).toNat) = bts (ys.set j (y + 91) ++ [201, 202]) := by
                simp only [bts, List.map_append, List.map_set]
                rw [List.set_append_left _ _ (by simpa using hjy)]
              rw [e] at hst
              exact ⟨j + 1, ys.set j (y + 91), hjl, by go_num, Lib.hid (by rw [List.length_set]; exact hyl.out), Lib.hid ⟨by rw [List.length_set]; exact hst, by rw [List.length_set]; exact hLy.out.2⟩, Lib.hid (hMy.out.setCell (p := ⟨g, j, none⟩) (fun _ => rfl) _)⟩
            case measure => simp [intOf]; omega
          · obtain rfl : n = j := by omega
            have ha := hMy.out.at HX1.out.1 (fun e => HX1.out.2 e.symm)
            have hc3 := hMy.out.at HX3.out.1 (fun e => HX3.out.2 e.symm)
            have a0 := cell_at (j := 0) ha rfl; have a1 := cell_at (j := 1) ha rfl; have a2 := cell_at (j := 2) ha rfl
            have c0 := cell_at (j := 0) hc3 rfl; have c1 := cell_at (j := 1) hc3 rfl; have c2' := cell_at (j := 2) hc3 rfl
            clear ha hc3
            have HSM := Lib.hid (same7_any nm A nr m ra sa rc sc rhs shs rows wr (HR2.out.llr hMy.out (fun b hb e => by have h1 := HGW.out; have h2 : b = g := e; omega) (fun b hb e => by have h1 := HGW.out; have h2 := HR2.out.fr b hb; have h3 : b = g := e; omega)) (HS2.out.llr hMy.out (fun b hb e => by have h1 := HGW.out; have h2 := hw26.out; have h3 : b = g := e; omega) (fun b hb e => by have h1 := HGW.out; have h2 := HS2.out.fr b hb; have h4 := hw26.out; have h3 : b = g := e; omega)) HOK.out.ml (by omega) HOK.out.rl (by omega))
            go_wp2_with fail
            refine HSM.out.mono ?_
            rintro e w12 ⟨rfl, hm12⟩
            have HL12 := Lib.hid (hLy.out.mod hm12 id)
            have HM12 := Lib.hid ((HMD.out.step hMy.out fun b hb e => by have h1 := HWG.out; have h3 : b = g := e; omega).step hm12 fun _ _ e => e)
            clear hm12 a0 a1 a2 c0 c1 c2' HSM
            go_wp2_with fail
            go_roundw
            case rel => exact ⟨k + 1, ys, by omega, by go_num, hyl, HL12, HM12⟩
            case measure => simp [intOf]; omega
    · obtain rfl : k = 2 := by omega
      go_wp2_with fail
      go_ret
      exact ⟨rfl, hM.out⟩
end Go.Proofs.YtelfakglaghfoaaGreat
/-
  How a law's row is closed: the walk says 'true, and nothing that was there has turned'; the row's ending follows.
-/
namespace Go.Proofs.YtelfakglaghfoaaGreat
open Go Go.RowKit Go.Mine Go.ChangeShapes Go.WideShapes Go.ChangeAt
set_option linter.unusedVariables false

theorem own : ownKnob Tryz.prog.godebug = none := by kernel_rfl
theorem laidOut : laidOutB Tryz.prog = true := by kernel_rfl

theorem trodAll_stays {H : Type} {enc : TypeId × Value → H} {W W' : World} (hb : Below W.heap.size W W') :
    ∀ (ts : List TypeId) (vs : List Value) (ds : List (DataW H)) (p : List MemPlace), (∀ t ∈ ts, Tryz.prog.readableRec t = true ∧ t < Tryz.prog.types.size) → (∀ x ∈ p, x.block < W.heap.size) →
    DataW.TrodAll enc Tryz.prog W 0 (fun _ => true) true ts vs ds p → DataW.TrodAll enc Tryz.prog W' 0 (fun b => decide (b < W.heap.size)) true ts vs ds p
  | [], vs, ds, p, _, _, h => by
    obtain ⟨rfl, rfl, rfl⟩ := trodAll_nil h
    exact trodAll_mk0
  | t :: ts, vs, ds, p, ht, hp, h => by
    obtain ⟨v0, vs0, d0, ds0, p0, q0, rfl, rfl, rfl, h0, r0⟩ := trodAll_cons h
    exact trodAll_cons_mk (Below.trod laidOut (ht t (by simp)).1 (ht t (by simp)).2 h0 hb (fun x hx => hp x (by simp [hx])))
      (trodAll_stays hb ts vs0 ds0 q0 (fun t h => ht t (by simp [h])) (fun x hx => hp x (by simp [hx])) r0)

theorem law_fin {H : Type} {enc : TypeId × Value → H} {f : Func} {s : ChangeSpec} {W W' : World} {args : Array Value} {ds gs : List (DataW H)} {before : List MemPlace}
    (hp : ∀ t ∈ f.params.toList, Tryz.prog.readableRec t = true ∧ t < Tryz.prog.types.size) (hvars : s.vars = []) (hrt : f.resultTypes = #[4])
    (hres : (s.fn H (ds ++ gs)).results = [.lit (.bool true)]) (hargs : (s.fn H (ds ++ gs)).args = ds) (hv : (s.fn H (ds ++ gs)).vars = [])
    (hW : DataW.Whole enc Tryz.prog f.params.toList s.vars false W args.toList ds gs before) (hM : Mine.Mod (fun _ => False) W W') :
    s.post enc Tryz.prog f false true false false W args (.bool true) W' := by
  have hlt := fun x hx => hW.lt x hx
  have hW' := hW
  obtain ⟨p, q, hA, hV, rfl, _, _⟩ := hW
  rw [hvars] at hV
  obtain ⟨rfl, rfl⟩ := trodVars_none hV
  refine ⟨_, _, _, [] ++ [], p, [], hW', ?_, ?_, ?_, hM.below.frame _, fun h => by cases h⟩
  · rw [hres, hrt]
    exact trodAll_cons_mk (shut_bool (by kernel_rfl) true) trodAll_mk0
  · rw [hargs]
    exact trodAll_stays hM.below _ _ _ _ hp (fun x hx => by simpa using hlt x (by simp [hx])) hA
  · rw [hv, hvars]; rfl

theorem Rd.ofAdd {w : World} {a : Addr} {xs : List Value} (h : ∀ i u, xs[i]? = some u → w.cell? (a.add i) = some u) : Rd w (some a) xs := by
  intro i u hi
  have hs : a.spot = none := by
    cases xs with
    | nil => simp at hi
    | cons x xs =>
      have h0 := h 0 x rfl
      have e : a.add 0 = a := by simp [Addr.add]
      rw [e] at h0
      unfold World.cell? at h0
      split at h0
      · split at h0
        · cases h0
        · rename_i hh; simpa using hh
      · cases h0
  obtain ⟨b, o, s⟩ := a
  simp only at hs
  subst hs
  have e : (⟨b, o, none⟩ : Addr).add i = ⟨b, o + i, none⟩ := by unfold Addr.add; split <;> simp_all
  have := h i u hi
  rw [e] at this
  exact ⟨b, o, rfl, this⟩
theorem Rd.ofStrs {w : World} {a : Addr} {ss : List ByteArray} {n : Nat} (hcell : ∀ i, i < ss.length → w.cell? (a.add i) = some (.string (ss.getD i ByteArray.empty))) : Rd w (some a) (sts (ss.take n)) := by
  have h : Rd w (some a) (sts ss) := Rd.ofAdd fun i u hi => by
    simp only [sts, List.getElem?_map] at hi
    cases hs : ss[i]? with
    | none => rw [hs] at hi; simp at hi
    | some s =>
      rw [hs] at hi; simp at hi; subst hi
      have hlt : i < ss.length := (List.getElem?_eq_some_iff.1 hs).1
      rw [hcell i hlt]
      simp [List.getD, hs]
  have := h.take n
  simpa [sts, List.map_take] using this

/-- bulks -/
theorem bulk_strs {H : Type} (ss : List ByteArray) : ss.length ≤ Rows.uptoBulkAll (strs (H := H) ss) ∧ ∀ s ∈ ss, s.size ≤ Rows.uptoBulkAll (strs (H := H) ss) := by
  induction ss with
  | nil => simp
  | cons s ss ih =>
    have e : Rows.uptoBulkAll (strs (H := H) (s :: ss)) = s.size + 1 + Rows.uptoBulkAll (strs (H := H) ss) := by
      simp only [strs, List.map_cons, Rows.uptoBulkAll, Rows.uptoBulk]
      rw [Lib.size_eq]
    rw [e]
    refine ⟨by simp; omega, fun x hx => ?_⟩
    rcases List.mem_cons.1 hx with rfl | hx
    · omega
    · have := ih.2 x hx; omega
theorem bulk_bound {H : Type} {l : List (DataW H)} (hk : Rows.uptoSmall H l = true) : Rows.uptoBulkAll l ≤ 1048576 := of_decide_eq_true hk
end Go.Proofs.YtelfakglaghfoaaGreat
/-
  How a row whose argument is a []byte is opened.
-/
namespace Go.Proofs.YtelfakglaghfoaaGreat
open Go Go.RowKit Go.Mine Go.ChangeShapes Go.WideShapes Go.ChangeAt
set_option linter.unusedVariables false

def u8s (zs : List Int) : List UInt8 := zs.map fun n => UInt8.ofNat n.toNat
@[simp] theorem u8s_length (zs : List Int) : (u8s zs).length = zs.length := by simp [u8s]
theorem u8_back {n : Int} (h : (Lit.int .u8 n).wf = true) : (((UInt8.ofNat n.toNat).toNat : Nat) : Int) = n := by
  have h2 : 0 ≤ n ∧ n ≤ 255 := by
    simp only [Lit.wf, Bool.and_eq_true] at h
    exact ⟨of_decide_eq_true h.1, of_decide_eq_true h.2⟩
  have : (UInt8.ofNat n.toNat).toNat = n.toNat := by
    rw [UInt8.toNat_ofNat']; omega
  rw [this]; omega
theorem Rd.ofBytes {w : World} {a : Addr} {zs : List Int} {n : Nat} (hcell : ∀ i, i < zs.length → w.cell? (a.add i) = some (.int .u8 (zs.getD i 0))) (hwf : ∀ n ∈ zs, (Lit.int .u8 n).wf = true) :
    Rd w (some a) (bts (u8s (zs.take n))) := by
  have h : Rd w (some a) (bts (u8s zs)) := Rd.ofAdd fun i u hi => by
    simp only [bts, u8s, List.getElem?_map] at hi
    cases hs : zs[i]? with
    | none => rw [hs] at hi; simp at hi
    | some s =>
      rw [hs] at hi; simp only [Option.map_some, Option.some.injEq] at hi
      have hlt : i < zs.length := (List.getElem?_eq_some_iff.1 hs).1
      rw [u8_back (hwf s (List.mem_of_getElem? hs))] at hi
      rw [hcell i hlt, ← hi]
      simp [List.getD, hs]
  have := h.take n
  simpa [bts, u8s, List.map_take] using this
theorem bulk_ints {H : Type} (k : IntKind) (zs : List Int) : zs.length ≤ Rows.uptoBulkAll (lits (H := H) k zs) := by
  induction zs with
  | nil => simp
  | cons z zs ih =>
    have e : Rows.uptoBulkAll (lits (H := H) k (z :: zs)) = 1 + Rows.uptoBulkAll (lits (H := H) k zs) := by
      simp only [lits, List.map_cons, Rows.uptoBulkAll, Rows.uptoBulk]
    rw [e]; simp; omega
end Go.Proofs.YtelfakglaghfoaaGreat
/- ColfileDecodes answers true of any bytes, where what it reads is of bulk at most 1048576. -/
namespace Go.Proofs.YtelfakglaghfoaaGreat.colfileDecodes
open Go Go.RowKit Go.Mine Go.ChangeShapes Go.WideShapes Go.ChangeAt
set_option linter.unusedVariables false

set_option maxRecDepth 100000 in
theorem contract (H : Type) (enc : TypeId × Value → H) (W : World) (base : Nat) (args : Array Value) (ds gs : List (DataW H)) (before : List MemPlace)
    (hval : ∀ (j : Nat) t v, Tryz.f3.params[j]? = some t → args[j]? = some v → Value.okWide Tryz.prog W .any base t v)
    (hW : DataW.Whole enc Tryz.prog Tryz.f3.params.toList Rows.colfileDecodesSpec.vars false W args.toList ds gs before) (hk : Rows.uptoSmall H (ds ++ gs) = true) :
    Calls Tryz.prog 3 args W fun e W' => ∃ v, e = .returned v ∧ Rows.colfileDecodesSpec.post enc Tryz.prog Tryz.f3 false true false false W args v W' := by
  have hW' := hW
  have hbulk := bulk_bound hk
  obtain ⟨p, q, hA0, hV, rfl, hfz, hnd⟩ := hW
  have hA : DataW.TrodAll enc Tryz.prog W 0 (fun _ => true) true Tryz.f3.params.toList args.toList ds p := hA0
  rw [Tryz.params3] at hA hval
  obtain ⟨v0, d0, rfl, rfl, h0⟩ := trodAll_one hA
  obtain ⟨rfl, rfl⟩ := trodVars_none hV
  obtain ⟨a0, len, cap, rfl⟩ := okWide_slice Tryz.underlying22 (hval 0 22 v0 rfl rfl)
  obtain ⟨fuel, hf⟩ := h0
  have fin : ∀ W' : World, Mine.Mod (fun _ => False) W W' → Rows.colfileDecodesSpec.post enc Tryz.prog Tryz.f3 false true false false W #[.slice a0 len cap] (.bool true) W' := fun W' hM =>
    law_fin (by rw [Tryz.params3]; intro t ht; simp at ht; subst ht; exact ⟨by kernel_rfl, of_decide_eq_true (by kernel_rfl)⟩) rfl rfl rfl rfl rfl hW' hM
  simp only [List.append_nil, Rows.uptoBulkAll] at hbulk
  rcases open_ints Tryz.underlying22 Tryz.underlying5 (by kernel_rfl) hf with ⟨hcs, hx⟩ | ⟨a, len', cap', zs, hcs, _, hl, hm, hz, hx, hcell, hws⟩
  · simp [Value.cells] at hcs
    obtain ⟨rfl, rfl, rfl⟩ := hcs
    exact (colfileDecodes_walk none 0 [] W (Rd.nil _ _) (by simp)).mono fun e W' ⟨he, hM⟩ => ⟨_, he, fin W' hM⟩
  · simp [Value.cells] at hcs
    obtain ⟨rfl, rfl, rfl⟩ := hcs
    simp only [Prod.mk.injEq] at hx
    obtain ⟨rfl, _⟩ := hx
    simp only [if_true] at hz
    simp only [Rows.uptoBulk] at hbulk
    have b1 := bulk_ints (H := H) .u8 (zs.take len)
    have hlen : (zs.take len).length = len := by rw [List.length_take, hz]; omega
    have hrd : Rd W (some a) (bts (u8s (zs.take len))) := Rd.ofBytes hcell hws
    have := colfileDecodes_walk (some a) cap (u8s (zs.take len)) W hrd (by rw [u8s_length]; omega)
    rw [u8s_length, hlen] at this
    exact this.mono fun e W' ⟨he, hM⟩ => ⟨_, he, fin W' hM⟩

set_option maxRecDepth 100000 in
theorem lifted (os : Os) (started : os.Started) (H : Type) (enc : TypeId × Value → H) (F : Stop.Interp) :
    ReturnsInHanded {} Tryz.checked os 3 .any ((Rows.OpenSpec.upto Rows.colfileDecodesSpec).pre6 enc Tryz.prog Tryz.f3 Rows.colfileDecodesUptoRow.domain false) (((Rows.OpenSpec.upto Rows.colfileDecodesSpec).at F).post enc Tryz.prog Tryz.f3 false true false false) := by
  refine returnsInHanded_of_cond (C := Tryz.checked) (s := Rows.OpenSpec.upto Rows.colfileDecodesSpec) (k := Rows.uptoSmall) rfl own started (by kernel_rfl) Tryz.func3
    (OpenSpec.witness (enc := enc) (C := Tryz.checked) (s := Rows.OpenSpec.upto Rows.colfileDecodesSpec) (k := Rows.uptoSmall) rfl false ⟨#[], #[.slice none 0 0], []⟩ 8 (by kernel_rfl) (by kernel_rfl) (by kernel_rfl)
      (x := ([.nil], [], [])) (by kernel_rfl) rfl (by kernel_rfl)) ?_
  intro W base args ds gs before hval hW _ hk _
  exact contract H enc W base args ds gs before hval hW hk

theorem over : Rows.colfileDecodesUptoRow.holds Tryz.pinned (Rows.OpenSpec.upto Rows.colfileDecodesSpec) :=
  OpenClaim.holds_of_cond 3 Tryz.f3 rfl rfl rfl rfl rfl rfl rfl ⟨rfl, rfl, rfl, rfl, rfl⟩ rfl rfl rfl rfl rfl (by kernel_rfl) Tryz.func3 (by kernel_rfl)
    (of_decide_eq_true (by kernel_rfl)) (by unfold Func.isWrapper; first | (rw [if_pos (by decide +kernel)]; kernel_rfl) | (rw [if_neg (by decide +kernel)]; exact ⟨rfl, rfl⟩))
    (fun os started H enc _ F => lifted os started H enc F)

theorem proved : Rows.ColfileDecodesUptoSaid := over
end Go.Proofs.YtelfakglaghfoaaGreat.colfileDecodes
