/-
  The program's sizes of a column: walked.
-/
import Derived.Test.YtjoiaejbahdjkaaGreatCqB
import Derived.Test.YtjoiaejbahdjkaaGreatColE
import Derived.Test.YtjoiaejbahdjkaaGreatCqF
import Derived.Test.YtjoiaejbahdjkaaGreatReader2
namespace Go.Proofs.YtjoiaejbahdjkaaGreat
open Go Go.RowKit Go.Mine
set_option linter.unusedVariables false
set_option maxHeartbeats 8000000
set_option maxRecDepth 100000
theorem len20 {n : Nat} (h : n < 2 ^ 64) : (lebl n).length ≤ 20 := by have := lebl_len64 n h; omega
theorem getD_u32 {c : List Nat} (hu : U32 c) (k : Nat) : c.getD k 0 < 2 ^ 32 := by
 rw [List.getD_eq_getElem?_getD]
 by_cases h : k < c.length
 ·rw [List.getElem?_eq_getElem h]; exact hu _ (List.getElem_mem h)
 ·rw [List.getElem?_eq_none (by omega)]; show (0 : Nat) < _; omega
theorem stepL_u {c : List Nat} (hu : U32 c) (k : Nat) : stepL c k < 2 ^ 33 := by
 unfold stepL
 split
 ·have := getD_u32 hu 0; omega
 ·have h1 := getD_u32 hu k
  have h2 := getD_u32 hu (k - 1)
  exact turnN_lt (by omega) (by omega)
theorem size1_any (a : Option Addr) (d : Nat) (c : List Nat) (w : World) (hr : Rd w a (u32s c)) (hu : U32 c) (hn : c.length < 2 ^ 32) :
 Calls Tryz.prog 168 #[.slice a c.length d] w fun e w' => e = .returned (.int .i64 ((layP c).length : Nat)) ∧ Mod (fun _ => False) w w' := by
 have m1 : Mod (fun _ => False) w (w.alloc (.cells #[.slice a c.length d] 162)) := (Mod.refl _ w).alloc _
 have hb : CBox (w.alloc (.cells #[.slice a c.length d] 162)) w.heap.size a d c := ⟨cell_at (heap_alloc_new w _) rfl, hr.mod m1 (fun _ _ => id)⟩
 have c0 := hb.1
 have HS := Hi (sum1_any w.heap.size a d c (fun k => (lebl (c.getD k 0)).length) (w.alloc (.cells #[.slice a c.length d] 162)) hn (fun k => len20 (by have := getD_u32 hu k; omega)) (fun k hk W m => sz1_any w.heap.size a d c k W (hb.mod0 m) hu hk hn))
 have HSUM : Hid (sumTo (fun k => (lebl (c.getD k 0)).length) c.length = (layP c).length) := Hi (layP_sum c)
 rw [HSUM.out] at HS
 have HM1 := Hi m1
 clear hr hu hb m1
 go_enter Tryz.func168, Tryz.ntmps168
 go_wp2_with fail
 refine HS.out.mono ?_
 rintro e w' ⟨rfl, hm⟩
 go_wp2_with fail
 go_ret
 exact ⟨rfl, HM1.out.trans hm⟩
theorem size2_any (a : Option Addr) (d : Nat) (c : List Nat) (w : World) (hr : Rd w a (u32s c)) (hu : U32 c) (hn : c.length < 2 ^ 32) :
 Calls Tryz.prog 174 #[.slice a c.length d] w fun e w' => e = .returned (.int .i64 ((layD c).length : Nat)) ∧ Mod (fun _ => False) w w' := by
 have m1 : Mod (fun _ => False) w (w.alloc (.cells #[.slice a c.length d] 162)) := (Mod.refl _ w).alloc _
 have hb : CBox (w.alloc (.cells #[.slice a c.length d] 162)) w.heap.size a d c := ⟨cell_at (heap_alloc_new w _) rfl, hr.mod m1 (fun _ _ => id)⟩
 have c0 := hb.1
 have HS := Hi (sum2_any w.heap.size a d c (fun k => (lebl (stepL c k)).length) (w.alloc (.cells #[.slice a c.length d] 162)) hn (fun k => len20 (by have := stepL_u hu k; omega)) (fun k hk W m => sz2_any w.heap.size a d c k W (hb.mod0 m) hu hk hn))
 have HSUM : Hid (sumTo (fun k => (lebl (stepL c k)).length) c.length = (layD c).length) := Hi (layD_sum c)
 rw [HSUM.out] at HS
 have HM1 := Hi m1
 clear hr hu hb m1
 go_enter Tryz.func174, Tryz.ntmps174
 go_wp2_with fail
 refine HS.out.mono ?_
 rintro e w' ⟨rfl, hm⟩
 go_wp2_with fail
 go_ret
 exact ⟨rfl, HM1.out.trans hm⟩
theorem ways_any (w : World) : Calls Tryz.prog 150 #[] w fun e w' => e = .returned (.agg #[.func (.func 168) #[] #[], .func (.func 172) #[] #[], .func (.func 173) #[] #[], .func (.func 174) #[] #[], .func (.func 177) #[] #[], .func (.func 178) #[] #[], .func (.func 179) #[] #[], .func (.func 181) #[] #[], .func (.func 182) #[] #[], .func (.func 183) #[] #[], .func (.func 185) #[] #[], .func (.func 186) #[] #[]]) ∧ Mod (fun _ => False) w w' := by
 go_enter Tryz.func150, Tryz.ntmps150
 go_wp2_with fail
 have h0 := heap_alloc_new w (.cells #[.func (.func 168) #[] #[], .func (.func 172) #[] #[], .func (.func 173) #[] #[], .func (.func 174) #[] #[], .func (.func 177) #[] #[], .func (.func 178) #[] #[], .func (.func 179) #[] #[], .func (.func 181) #[] #[], .func (.func 182) #[] #[], .func (.func 183) #[] #[], .func (.func 185) #[] #[], .func (.func 186) #[] #[]] 206)
 have c0 := cell_at (j := 0) h0 rfl; have c1 := cell_at (j := 1) h0 rfl; have c2 := cell_at (j := 2) h0 rfl; have c3 := cell_at (j := 3) h0 rfl; have c4 := cell_at (j := 4) h0 rfl; have c5 := cell_at (j := 5) h0 rfl; have c6 := cell_at (j := 6) h0 rfl; have c7 := cell_at (j := 7) h0 rfl; have c8 := cell_at (j := 8) h0 rfl; have c9 := cell_at (j := 9) h0 rfl; have c10 := cell_at (j := 10) h0 rfl; have c11 := cell_at (j := 11) h0 rfl
 have hm : Mod (fun _ => False) w (w.alloc (.cells #[.func (.func 168) #[] #[], .func (.func 172) #[] #[], .func (.func 173) #[] #[], .func (.func 174) #[] #[], .func (.func 177) #[] #[], .func (.func 178) #[] #[], .func (.func 179) #[] #[], .func (.func 181) #[] #[], .func (.func 182) #[] #[], .func (.func 183) #[] #[], .func (.func 185) #[] #[], .func (.func 186) #[] #[]] 206)) := (Mod.refl _ w).alloc _
 generalize w.alloc (.cells #[.func (.func 168) #[] #[], .func (.func 172) #[] #[], .func (.func 173) #[] #[], .func (.func 174) #[] #[], .func (.func 177) #[] #[], .func (.func 178) #[] #[], .func (.func 179) #[] #[], .func (.func 181) #[] #[], .func (.func 182) #[] #[], .func (.func 183) #[] #[], .func (.func 185) #[] #[], .func (.func 186) #[] #[]] 206) = w5 at *
 refine bodyPost_ret (v := .agg #[.func (.func 168) #[] #[], .func (.func 172) #[] #[], .func (.func 173) #[] #[], .func (.func 174) #[] #[], .func (.func 177) #[] #[], .func (.func 178) #[] #[], .func (.func 179) #[] #[], .func (.func 181) #[] #[], .func (.func 182) #[] #[], .func (.func 183) #[] #[], .func (.func 185) #[] #[], .func (.func 186) #[] #[]]) ?_ rfl ⟨rfl, hm⟩
 simp [results, Tryz.f150, go_sem, c0, c1, c2, c3, c4, c5, c6, c7, c8, c9, c10, c11]
theorem idx0 (w : World) : (Instr.index 206 (.agg #[.func (.func 168) #[] #[], .func (.func 172) #[] #[], .func (.func 173) #[] #[], .func (.func 174) #[] #[], .func (.func 177) #[] #[], .func (.func 178) #[] #[], .func (.func 179) #[] #[], .func (.func 181) #[] #[], .func (.func 182) #[] #[], .func (.func 183) #[] #[], .func (.func 185) #[] #[], .func (.func 186) #[] #[]]) (.int .i64 0)).run Tryz.prog w = .ok (.agg #[.func (.func 168) #[] #[], .func (.func 172) #[] #[], .func (.func 173) #[] #[]]) w := by kernel_rfl
theorem idx1 (w : World) : (Instr.index 206 (.agg #[.func (.func 168) #[] #[], .func (.func 172) #[] #[], .func (.func 173) #[] #[], .func (.func 174) #[] #[], .func (.func 177) #[] #[], .func (.func 178) #[] #[], .func (.func 179) #[] #[], .func (.func 181) #[] #[], .func (.func 182) #[] #[], .func (.func 183) #[] #[], .func (.func 185) #[] #[], .func (.func 186) #[] #[]]) (.int .i64 1)).run Tryz.prog w = .ok (.agg #[.func (.func 174) #[] #[], .func (.func 177) #[] #[], .func (.func 178) #[] #[]]) w := by kernel_rfl
theorem idx2 (w : World) : (Instr.index 206 (.agg #[.func (.func 168) #[] #[], .func (.func 172) #[] #[], .func (.func 173) #[] #[], .func (.func 174) #[] #[], .func (.func 177) #[] #[], .func (.func 178) #[] #[], .func (.func 179) #[] #[], .func (.func 181) #[] #[], .func (.func 182) #[] #[], .func (.func 183) #[] #[], .func (.func 185) #[] #[], .func (.func 186) #[] #[]]) (.int .i64 2)).run Tryz.prog w = .ok (.agg #[.func (.func 179) #[] #[], .func (.func 181) #[] #[], .func (.func 182) #[] #[]]) w := by kernel_rfl
theorem idx3 (w : World) : (Instr.index 206 (.agg #[.func (.func 168) #[] #[], .func (.func 172) #[] #[], .func (.func 173) #[] #[], .func (.func 174) #[] #[], .func (.func 177) #[] #[], .func (.func 178) #[] #[], .func (.func 179) #[] #[], .func (.func 181) #[] #[], .func (.func 182) #[] #[], .func (.func 183) #[] #[], .func (.func 185) #[] #[], .func (.func 186) #[] #[]]) (.int .i64 3)).run Tryz.prog w = .ok (.agg #[.func (.func 183) #[] #[], .func (.func 185) #[] #[], .func (.func 186) #[] #[]]) w := by kernel_rfl
def szA (l : List Nat) (k : Nat) : Array Value := #[.int .i64 (if 0 < k then (l.getD 0 0 : Nat) else (0 : Nat)), .int .i64 (if 1 < k then (l.getD 1 0 : Nat) else (0 : Nat)), .int .i64 (if 2 < k then (l.getD 2 0 : Nat) else (0 : Nat)), .int .i64 (if 3 < k then (l.getD 3 0 : Nat) else (0 : Nat))]
theorem sizesP_any (a : Option Addr) (d : Nat) (c : List Nat) (w : World) (hr : Rd w a (u32s c)) (hu : U32 c) (hn : c.length ≤ 65536) (hab : ∀ b, blk a = some b → b < w.heap.size) :
 Calls Tryz.prog 198 #[.slice a c.length d] w fun e w' => e = .returned (fourI (szs c)) ∧ Mod (fun _ => False) w w' := by
 have HS1 := Hi (fun W (m : Mod (fun _ => False) w W) => size1_any a d c W (hr.mod m (fun _ _ => id)) hu (by omega))
 have HS2 := Hi (fun W (m : Mod (fun _ => False) w W) => size2_any a d c W (hr.mod m (fun _ _ => id)) hu (by omega))
 have HS3 := Hi (fun W (m : Mod (fun _ => False) w W) => size3_any a d c W (hr.mod m (fun _ _ => id)) hu hn (fun b hb => Nat.lt_of_lt_of_le (hab b hb) m.size))
 have HS4 := Hi (fun W (m : Mod (fun _ => False) w W) => size4_any a d c W (hr.mod m (fun _ _ => id)) hu (by omega))
 have HSZ : Hid (fourI (szs c) = .agg #[.int .i64 ((layP c).length : Nat), .int .i64 ((layD c).length : Nat), .int .i64 ((layR c).length : Nat), .int .i64 ((layK c).length : Nat)]) := Hi rfl
 clear hr hu hab
 generalize (layP c).length = n1 at *
 generalize (layD c).length = n2 at *
 generalize (layR c).length = n3 at *
 generalize (layK c).length = n4 at *
 go_enter Tryz.func198, Tryz.ntmps198
 go_wp2_with fail
 have m0 : Mod (fun _ => False) w ((w.alloc (.cells #[.int .i64 0, .int .i64 0, .int .i64 0, .int .i64 0] 215)).alloc (.cells #[.int .i64 0, .int .i64 0, .int .i64 0, .int .i64 0] 215)) := ((Mod.refl _ w).alloc _).alloc _
 have b0 : ((w.alloc (.cells #[.int .i64 0, .int .i64 0, .int .i64 0, .int .i64 0] 215)).alloc (.cells #[.int .i64 0, .int .i64 0, .int .i64 0, .int .i64 0] 215)).heap[w.heap.size]? = some (.cells #[.int .i64 0, .int .i64 0, .int .i64 0, .int .i64 0] 215 (0, 0)) :=
  ((Mod.refl (fun _ => False) _).alloc _).at (heap_alloc_new w _) id
 have b1 : ((w.alloc (.cells #[.int .i64 0, .int .i64 0, .int .i64 0, .int .i64 0] 215)).alloc (.cells #[.int .i64 0, .int .i64 0, .int .i64 0, .int .i64 0] 215)).heap[w.heap.size + 1]? = some (.cells #[.int .i64 0, .int .i64 0, .int .i64 0, .int .i64 0] 215 (0, 0)) := by
  have := heap_alloc_new (w.alloc (.cells #[.int .i64 0, .int .i64 0, .int .i64 0, .int .i64 0] 215)) (.cells #[.int .i64 0, .int .i64 0, .int .i64 0, .int .i64 0] 215)
  rwa [World.size_alloc] at this
 generalize (w.alloc (.cells #[.int .i64 0, .int .i64 0, .int .i64 0, .int .i64 0] 215)).alloc (.cells #[.int .i64 0, .int .i64 0, .int .i64 0, .int .i64 0] 215) = w2 at *
 refine (ways_any _).mono ?_
 rintro e w3 ⟨rfl, hm⟩
 have HM3 := Hi (m0.trans hm); have HB0 := Hi (hm.at b0 id); have HB1 := Hi (hm.at b1 id)
 clear hm m0 b0 b1
 go_wp2_with fail
 obtain ⟨B1, hB1⟩ : ∃ B, B = w.heap.size + 1 := ⟨_, rfl⟩
 rw [← hB1] at HB1 ⊢
 have HBB := Hi hB1
 clear hB1
 go_loopw [4, 5, 7] (fun _ _ iv wr => ∃ i : Nat, iv = .int .i64 i ∧ i ≤ 4 ∧ Hid (wr.heap[B1]? = some (.cells (szA [n1, n2, n3, n4] i) 215 (0, 0))) ∧ Hid (Mod (fun b => b = B1) w3 wr)) (fun _ _ iv _ => 4 - (intOf iv).toNat)
 case atStart => exact ⟨0, rfl, by omega, HB1, Hi (Mod.refl _ _)⟩
 case round =>
  clear HB1
  obtain ⟨i, rfl, hi, hH, hM⟩ := hrel
  by_cases hlt : i < 4
  ·have hcase : i = 0 ∨ i = 1 ∨ i = 2 ∨ i = 3 := by omega
   rcases hcase with h0 | h1 | h2 | h3
   ·subst h0
    have hidx := idx0 wr
    try rw [show ((0 : Nat) : Int) = 0 from rfl]
    have hmw : Mod (fun _ => False) w (wr.alloc (.cells #[.func (.func 168) #[] #[], .func (.func 172) #[] #[], .func (.func 173) #[] #[]] 205)) := (HM3.out.step hM.out (fun b hb e => by have := HBB.out; omega)).alloc _
    have hb1 := ((Mod.refl (fun _ => False) wr).alloc (.cells #[.func (.func 168) #[] #[], .func (.func 172) #[] #[], .func (.func 173) #[] #[]] 205)).at hH.out id
    go_wp2_with fail
    refine (HS1.out _ hmw).mono ?_
    rintro e w4 ⟨rfl, hm4⟩
    have hb4 := hm4.at hb1 id
    have x4 := cell_at (j := 0) hb4 rfl
    have f4 := frozen_at (j := 0) hb4
    have HB4 := Hi hb4
    have HM4 : Hid (Mod (fun b => b = B1) w3 w4) := Hi ((hM.out.alloc _).step hm4 (fun _ _ e => e.elim))
    clear hb1 hmw hm4 hb4
    go_wp2_with fail
    have hset := heap_setCell_at (j := 0) (.int .i64 (n1 : Nat)) HB4.out
    have HSET : Hid ((w4.setCell ⟨B1, 0, none⟩ (.int .i64 (n1 : Nat))).heap[B1]? = some (.cells (szA [n1, n2, n3, n4] 1) 215 (0, 0))) := Hi hset
    have HMS : Hid (Mod (fun b => b = B1) w3 (w4.setCell ⟨B1, 0, none⟩ (.int .i64 (n1 : Nat)))) := Hi (HM4.out.setCell (p := ⟨B1, 0, none⟩) (fun _ => rfl) _)
    go_roundw
    case rel => exact ⟨1, rfl, by omega, HSET, HMS⟩
    case measure => simp [intOf]
   ·subst h1
    have hidx := idx1 wr
    try rw [show ((1 : Nat) : Int) = 1 from rfl]
    have hmw : Mod (fun _ => False) w (wr.alloc (.cells #[.func (.func 174) #[] #[], .func (.func 177) #[] #[], .func (.func 178) #[] #[]] 205)) := (HM3.out.step hM.out (fun b hb e => by have := HBB.out; omega)).alloc _
    have hb1 := ((Mod.refl (fun _ => False) wr).alloc (.cells #[.func (.func 174) #[] #[], .func (.func 177) #[] #[], .func (.func 178) #[] #[]] 205)).at hH.out id
    go_wp2_with fail
    refine (HS2.out _ hmw).mono ?_
    rintro e w4 ⟨rfl, hm4⟩
    have hb4 := hm4.at hb1 id
    have x4 := cell_at (j := 1) hb4 rfl
    have f4 := frozen_at (j := 1) hb4
    have HB4 := Hi hb4
    have HM4 : Hid (Mod (fun b => b = B1) w3 w4) := Hi ((hM.out.alloc _).step hm4 (fun _ _ e => e.elim))
    clear hb1 hmw hm4 hb4
    go_wp2_with fail
    have hset := heap_setCell_at (j := 1) (.int .i64 (n2 : Nat)) HB4.out
    have HSET : Hid ((w4.setCell ⟨B1, 1, none⟩ (.int .i64 (n2 : Nat))).heap[B1]? = some (.cells (szA [n1, n2, n3, n4] 2) 215 (0, 0))) := Hi hset
    have HMS : Hid (Mod (fun b => b = B1) w3 (w4.setCell ⟨B1, 1, none⟩ (.int .i64 (n2 : Nat)))) := Hi (HM4.out.setCell (p := ⟨B1, 1, none⟩) (fun _ => rfl) _)
    go_roundw
    case rel => exact ⟨2, rfl, by omega, HSET, HMS⟩
    case measure => simp [intOf]
   ·subst h2
    have hidx := idx2 wr
    try rw [show ((2 : Nat) : Int) = 2 from rfl]
    have hmw : Mod (fun _ => False) w (wr.alloc (.cells #[.func (.func 179) #[] #[], .func (.func 181) #[] #[], .func (.func 182) #[] #[]] 205)) := (HM3.out.step hM.out (fun b hb e => by have := HBB.out; omega)).alloc _
    have hb1 := ((Mod.refl (fun _ => False) wr).alloc (.cells #[.func (.func 179) #[] #[], .func (.func 181) #[] #[], .func (.func 182) #[] #[]] 205)).at hH.out id
    go_wp2_with fail
    refine (HS3.out _ hmw).mono ?_
    rintro e w4 ⟨rfl, hm4⟩
    have hb4 := hm4.at hb1 id
    have x4 := cell_at (j := 2) hb4 rfl
    have f4 := frozen_at (j := 2) hb4
    have HB4 := Hi hb4
    have HM4 : Hid (Mod (fun b => b = B1) w3 w4) := Hi ((hM.out.alloc _).step hm4 (fun _ _ e => e.elim))
    clear hb1 hmw hm4 hb4
    go_wp2_with fail
    have hset := heap_setCell_at (j := 2) (.int .i64 (n3 : Nat)) HB4.out
    have HSET : Hid ((w4.setCell ⟨B1, 2, none⟩ (.int .i64 (n3 : Nat))).heap[B1]? = some (.cells (szA [n1, n2, n3, n4] 3) 215 (0, 0))) := Hi hset
    have HMS : Hid (Mod (fun b => b = B1) w3 (w4.setCell ⟨B1, 2, none⟩ (.int .i64 (n3 : Nat)))) := Hi (HM4.out.setCell (p := ⟨B1, 2, none⟩) (fun _ => rfl) _)
    go_roundw
    case rel => exact ⟨3, rfl, by omega, HSET, HMS⟩
    case measure => simp [intOf]
   ·subst h3
    have hidx := idx3 wr
    try rw [show ((3 : Nat) : Int) = 3 from rfl]
    have hmw : Mod (fun _ => False) w (wr.alloc (.cells #[.func (.func 183) #[] #[], .func (.func 185) #[] #[], .func (.func 186) #[] #[]] 205)) := (HM3.out.step hM.out (fun b hb e => by have := HBB.out; omega)).alloc _
    have hb1 := ((Mod.refl (fun _ => False) wr).alloc (.cells #[.func (.func 183) #[] #[], .func (.func 185) #[] #[], .func (.func 186) #[] #[]] 205)).at hH.out id
    go_wp2_with fail
    refine (HS4.out _ hmw).mono ?_
    rintro e w4 ⟨rfl, hw4⟩
    have hm4 : Mod (fun _ => False) (wr.alloc (.cells #[.func (.func 183) #[] #[], .func (.func 185) #[] #[], .func (.func 186) #[] #[]] 205)) w4 := by rw [← hw4]; exact Mod.refl _ _
    have hb4 := hm4.at hb1 id
    have x4 := cell_at (j := 3) hb4 rfl
    have f4 := frozen_at (j := 3) hb4
    have HB4 := Hi hb4
    have HM4 : Hid (Mod (fun b => b = B1) w3 w4) := Hi ((hM.out.alloc _).step hm4 (fun _ _ e => e.elim))
    clear hb1 hmw hm4 hb4
    go_wp2_with fail
    have hset := heap_setCell_at (j := 3) (.int .i64 (n4 : Nat)) HB4.out
    have HSET : Hid ((w4.setCell ⟨B1, 3, none⟩ (.int .i64 (n4 : Nat))).heap[B1]? = some (.cells (szA [n1, n2, n3, n4] 4) 215 (0, 0))) := Hi hset
    have HMS : Hid (Mod (fun b => b = B1) w3 (w4.setCell ⟨B1, 3, none⟩ (.int .i64 (n4 : Nat)))) := Hi (HM4.out.setCell (p := ⟨B1, 3, none⟩) (fun _ => rfl) _)
    go_roundw
    case rel => exact ⟨4, rfl, by omega, HSET, HMS⟩
    case measure => simp [intOf]
  ·have h4 : i = 4 := by omega
   subst h4
   rw [show ((4 : Nat) : Int) = 4 from rfl]
   have hcs : w3.heap[w.heap.size]? = some (.cells #[.int .i64 0, .int .i64 0, .int .i64 0, .int .i64 0] 215 (0, 0)) := HB0.out
   have hcw := hM.out.at hcs (fun e => by have := HBB.out; omega)
   have x0 : wr.cell? ⟨B1, 0, none⟩ = some (.int .i64 (n1 : Nat)) := cell_at (j := 0) hH.out rfl
   have x1 : wr.cell? ⟨B1, 1, none⟩ = some (.int .i64 (n2 : Nat)) := cell_at (j := 1) hH.out rfl
   have x2 : wr.cell? ⟨B1, 2, none⟩ = some (.int .i64 (n3 : Nat)) := cell_at (j := 2) hH.out rfl
   have x3 : wr.cell? ⟨B1, 3, none⟩ = some (.int .i64 (n4 : Nat)) := cell_at (j := 3) hH.out rfl
   have y0 := cell_at (j := 0) hcw rfl; have y1 := cell_at (j := 1) hcw rfl; have y2 := cell_at (j := 2) hcw rfl; have y3 := cell_at (j := 3) hcw rfl
   have f0 := frozen_at (j := 0) hcw; have f1 := frozen_at (j := 1) hcw; have f2 := frozen_at (j := 2) hcw; have f3 := frozen_at (j := 3) hcw
   have HCW := Hi hcw
   clear hcs hcw
   generalize hB0 : w.heap.size = B0 at *
   have HBX := Hi hB0
   clear hB0
   go_wp2_with fail
   have q1 := heap_setCell_at (j := 0) (.int .i64 (n1 : Nat)) HCW.out
   have q2 := heap_setCell_at (j := 1) (.int .i64 (n2 : Nat)) q1
   have q3 := heap_setCell_at (j := 2) (.int .i64 (n3 : Nat)) q2
   have q4 := heap_setCell_at (j := 3) (.int .i64 (n4 : Nat)) q3
   have HLT : Hid (¬ B0 < w.heap.size) := Hi (by have := HBX.out; omega)
   have HM5 := Hi (HM3.out.step hM.out (fun b hb e => by have h1 := HBB.out; have h2 := HBX.out; omega))
   have M4 : Hid (Mod (fun _ => False) w ((((wr.setCell ⟨B0, 0, none⟩ (.int .i64 (n1 : Nat))).setCell ⟨B0, 1, none⟩ (.int .i64 (n2 : Nat))).setCell ⟨B0, 2, none⟩ (.int .i64 (n3 : Nat))).setCell ⟨B0, 3, none⟩ (.int .i64 (n4 : Nat)))) :=
    Hi ((((HM5.out.setCell (p := ⟨B0, 0, none⟩) (fun h => HLT.out h) _).setCell (p := ⟨B0, 1, none⟩) (fun h => HLT.out h) _).setCell (p := ⟨B0, 2, none⟩) (fun h => HLT.out h) _).setCell (p := ⟨B0, 3, none⟩) (fun h => HLT.out h) _)
   have p0 := cell_at (j := 0) q4 rfl; have p1 := cell_at (j := 1) q4 rfl; have p2 := cell_at (j := 2) q4 rfl; have p3 := cell_at (j := 3) q4 rfl
   generalize (((wr.setCell ⟨B0, 0, none⟩ (.int .i64 (n1 : Nat))).setCell ⟨B0, 1, none⟩ (.int .i64 (n2 : Nat))).setCell ⟨B0, 2, none⟩ (.int .i64 (n3 : Nat))).setCell ⟨B0, 3, none⟩ (.int .i64 (n4 : Nat)) = w5 at *
   refine bodyPost_ret (v := fourI (szs c)) ?_ rfl ⟨rfl, M4.out⟩
   rw [HSZ.out]
   simp [results, Tryz.f198, go_sem, p0, p1, p2, p3]
end Go.Proofs.YtjoiaejbahdjkaaGreat
/-
  The program's readings of a column, plain: walked.
-/
namespace Go.Proofs.YtjoiaejbahdjkaaGreat
open Go Go.RowKit Go.Mine
set_option linter.unusedVariables false
set_option maxHeartbeats 4000000
set_option maxRecDepth 100000
theorem rleft_any (p : Nat) (a : Option Addr) (n c x : Nat) (f : Value) (t : TypeId) (w : World) (h : w.heap[p]? = some (.cells #[.slice a n c, .int .i64 x, f, .bool true] t (0, 0))) (hx : x ≤ n) (hn : n < 2 ^ 40) :
 Calls Tryz.prog 72 #[.pointer (some ⟨p, 0, none⟩)] w fun e w' => e = .returned (.int .i64 (n - x : Nat)) ∧ Mod (fun _ => False) w w' := by
 have hc0 : w.cell? ⟨p, 0, none⟩ = some (.slice a n c) := cell_at h rfl
 have hc1 : w.cell? ⟨p, 1, none⟩ = some (.int .i64 x) := cell_at h rfl
 have H := Hi h; clear h
 have hsub : (n : Int) - (x : Int) = ((n - x : Nat) : Int) := by omega
 go_enter Tryz.func72, Tryz.ntmps72
 go_wp2_with (go_at_call 68; refine (rnone_any p _ _ _ _ _ H.out).mono ?_; rintro e w' ⟨rfl, rfl⟩)
 refine wp_region_ord (fun w' => w'.cell? ⟨p, 0, none⟩ = some (.slice a n c) ∧ w'.cell? ⟨p, 1, none⟩ = some (.int .i64 x)) [(0, 0), (0, 1), (0, 2), (1, 3), (0, 4), (0, 5), (0, 6), (0, 7), (1, 8), (0, 9), (0, 10)] (by kernel_rfl) (by kernel_rfl) ?_
 go_wp2_with (first
  |(refine ord_pure rfl rfl rfl (fun K hK => ?_); go_big_quiet_op; refine hK _ ?_; clear hK K)
  |(refine ord_held rfl rfl rfl (by exact ⟨by simpa using hc0, by simpa using hc1⟩) (fun K hK => ?_); apply Exists.intro; refine ⟨fun w' hs => ?_, hK _ ?_⟩; (revert hs; dsimp only; (try simp only [and_imp]); intros; go_simp; rfl); clear hK K)
  |(refine ord_nil ?_))
 go_ret
 exact ⟨rfl, (Mod.refl _ w).drew⟩
theorem taken_any (n : Nat) (w : World) (hn : n < 2 ^ 64) :
 Calls Tryz.prog 192 #[.int .u64 n] w fun e w' => e = .returned (.tuple #[.int .u32 (n % 2 ^ 32 : Nat), .bool (decide (n < 2 ^ 32))]) ∧ w = w' := by
 have hd : decide ((n : Int) ≤ 4294967295) = decide (n < 2 ^ 32) := by
  by_cases h : n < 2 ^ 32
  ·rw [decide_eq_true h]; exact decide_eq_true (by omega)
  ·rw [decide_eq_false h]; exact decide_eq_false (by omega)
 have hm : (n : Int) % 4294967296 = ((n % 2 ^ 32 : Nat) : Int) := by omega
 have HD := Hi hd; have HM := Hi hm; clear hd hm
 go_enter Tryz.func192, Tryz.ntmps192
 go_wp2_with fail
 go_ret2
 refine ⟨?_, rfl⟩
 rw [HD.out, HM.out]
 rfl
structure VS (w1 w : World) (p : Nat) (ra : Option Addr) (rc : Nat) (l : List UInt8) (at_ f : Nat) (oa : Option Addr) (oc : Nat) (us : List Value) : Prop where
 rd : RdAt w p ra rc l at_ f
 own : Mine.Own w 58 1 oa us.length oc us
 fr : ∀ b, blk oa = some b → w1.heap.size ≤ b
 md : Mod (fun b => b = p) w1 w
 pl : p < w1.heap.size
 al : l ≠ [] → ∀ b, blk ra = some b → b < w1.heap.size
theorem VS.start {w1 : World} {p : Nat} {ra : Option Addr} {rc : Nat} {l : List UInt8} (h : RdAt w1 p ra rc l 0 0) : VS w1 w1 p ra rc l 0 0 none 0 [] :=
 ⟨h, Mine.Own.nil _ _ _, (fun b hb => by cases hb), Mod.refl _ _, (Array.getElem?_eq_some_iff.1 h.heap).1, fun hl => h.rd.lt (by simpa [bts] using hl)⟩
theorem VS.num {w1 w w' : World} {p : Nat} {ra : Option Addr} {rc : Nat} {l : List UInt8} {at_ f at' f' : Nat} {oa : Option Addr} {oc : Nat} {us : List Value} (h : VS w1 w p ra rc l at_ f oa oc us) (hr : RdAt w' p ra rc l at' f') (m : Mod (fun b => b = p) w w') : VS w1 w' p ra rc l at' f' oa oc us :=
 ⟨hr, h.own.mod m (fun b hb e => by have := h.fr b hb; have := h.pl; omega), h.fr, h.md.trans m, h.pl, h.al⟩
theorem VS.mod0 {w1 w w' : World} {p : Nat} {ra : Option Addr} {rc : Nat} {l : List UInt8} {at_ f : Nat} {oa : Option Addr} {oc : Nat} {us : List Value} (h : VS w1 w p ra rc l at_ f oa oc us) (m : Mod (fun _ => False) w w') : VS w1 w' p ra rc l at_ f oa oc us :=
 ⟨h.rd.mod0 m, h.own.mod m (fun _ _ => id), h.fr, h.md.step m (fun _ _ => False.elim), h.pl, h.al⟩
theorem VS.app {w1 w w3 : World} {p : Nat} {ra : Option Addr} {rc : Nat} {l : List UInt8} {at_ f : Nat} {oa a3 : Option Addr} {oc c3 n : Nat} {us ys : List Value} (h : VS w1 w p ra rc l at_ f oa oc us) (hG : Grow w oa w3 a3) (hO : Mine.Own w3 58 1 a3 n c3 (us ++ ys)) (hn : n = us.length + ys.length) : VS w1 w3 p ra rc l at_ f a3 c3 (us ++ ys) := by
 have hrd : RdAt w3 p ra rc l at_ f := by
  have hpn : ¬ blk oa = some p := fun e => by have := h.fr p e; have := h.pl; omega
  by_cases h0 : l = []
  ·subst h0
   exact ⟨h.rd.ne, h.rd.le, h.rd.lc, h.rd.len, hG.mod.at h.rd.heap hpn, fun i u hu => by simp [bts] at hu⟩
  ·exact h.rd.mod hG.mod hpn (fun b hb e => by have := h.fr b e; have := h.al h0 b hb; omega)
 refine ⟨hrd, ?_, fun b hb => ?_, h.md.step hG.mod (fun b hb e => by have := h.fr b e; omega), h.pl, h.al⟩
 ·rw [List.length_append, ← hn]; exact hO
 ·rcases hG.pos with e | ⟨g, e, hg⟩
  ·rw [e] at hb; exact h.fr b hb
  ·have := h.md.size
   rw [e] at hb
   have : g = b := by simpa [blk] using hb
   omega
def RPost (r : List Nat) (w : World) (e : Ending) (w' : World) : Prop := ∃ a c, e = .returned (.slice a r.length c) ∧ VOwn 58 w w' a c (u32s r)
theorem VS.post {w w1 w' : World} {p : Nat} {ra : Option Addr} {rc : Nat} {l : List UInt8} {at_ f : Nat} {oa : Option Addr} {oc : Nat} {us : List Value} (h : VS w1 w' p ra rc l at_ f oa oc us) (m : Mod (fun _ => False) w w1) (hp : w.heap.size ≤ p) : VOwn 58 w w' oa oc us :=
 ⟨h.own, fun b hb => Nat.le_trans m.size (h.fr b hb), m.step h.md (fun b hb e => by omega)⟩
theorem stNum_ok {l : List UInt8} {at_ : Nat} (h : (getL (l.drop at_)).2.2 = 0) : stNum l at_ 0 = ((getL (l.drop at_)).1, at_ + (getL (l.drop at_)).2.1, 0) := by
 rw [stNum, if_neg (by simp), if_neg (by simp [h])]
theorem stNum_err {l : List UInt8} {at_ : Nat} (h : (getL (l.drop at_)).2.2 ≠ 0) : stNum l at_ 0 = (0, at_, (getL (l.drop at_)).2.2) := by
 rw [stNum, if_neg (by simp), if_pos h]
theorem rpGo_nil (m : Nat) : rpGo m [] = [] := by cases m <;> simp [rpGo]
theorem rpGo_on (m : Nat) {l : List UInt8} (h0 : l ≠ []) (h1 : (getL l).2.2 = 0) (h2 : (getL l).1 < 2 ^ 32) : rpGo (m + 1) l = (getL l).1 :: rpGo m (l.drop (getL l).2.1) := by
 rw [rpGo, if_neg (by rintro (h | h | h); exact h0 h; exact h h1; omega)]
theorem rpGo_off (m : Nat) {l : List UInt8} (h : l = [] ∨ (getL l).2.2 ≠ 0 ∨ 2 ^ 32 ≤ (getL l).1) : rpGo m l = [] := by
 cases m with
 | zero => rfl
 | succ m => rw [rpGo, if_pos h]
theorem readP1_any (a : Option Addr) (d rows : Nat) (l : List UInt8) (w : World) (hr : Rd w a (bts l)) (hl : l.length < 2 ^ 40) (hnil : a = none → d = 0) (hrows : rows ≤ 65536) :
 Calls Tryz.prog 173 #[.slice a l.length d, .int .i64 rows] w (RPost (rpGo rows l) w) := by
 have HN := Hi (newReader_any a d l w hr hl hnil)
 clear hr hnil
 go_enter Tryz.func173, Tryz.ntmps173
 go_wp2_with fail
 refine HN.out.mono ?_
 rintro e w1 ⟨p, ra, rc, rfl, hRD, hp, hm, _⟩
 have HR := Hi hRD; have HP := Hi hp; have HM := Hi hm
 clear hRD hp hm HN
 go_wp2_with fail
 go_loopw [5, 7, 8] (fun cv _ _ wr => ∃ (c : List Nat) (at_ : Nat) (oa : Option Addr) (oc : Nat), cv = .slice oa c.length oc ∧ c.length ≤ rows ∧ at_ ≤ l.length ∧ Hid (rpGo rows l = c ++ rpGo (rows - c.length) (l.drop at_)) ∧ Hid (VS w1 wr p ra rc l at_ 0 oa oc (u32s c))) (fun cv _ _ _ => match cv with | .slice _ n _ => rows - n | _ => 0)
 case atStart => exact ⟨[], 0, none, 0, rfl, Nat.zero_le _, Nat.zero_le _, Hi (by simp), Hi (VS.start HR.out)⟩
 case round =>
  obtain ⟨c, at_, oa, oc, rfl, hc, hat, hE, hV⟩ := hrel
  have HL := Hi (rleft_any p ra l.length rc at_ _ _ wr hV.out.rd.heap hat hl)
  rename World => w9
  by_cases hgo : at_ < l.length ∧ c.length < rows
  ·obtain ⟨h1, h2⟩ := hgo
   have h0 : 0 < l.length - at_ := by omega
   go_wp2_with fail
   refine HL.out.mono ?_
   rintro e w2 ⟨rfl, hm2⟩
   have HV2 := Hi (hV.out.mod0 hm2)
   clear hm2 hV HL
   have hdl : (l.drop at_).length = l.length - at_ := List.length_drop
   have hne : l.drop at_ ≠ [] := by intro e; rw [e] at hdl; simp at hdl; omega
   obtain ⟨m, hm⟩ : ∃ m, rows - c.length = m + 1 := ⟨rows - c.length - 1, by omega⟩
   have HDL := Hi hdl
   have HMM := Hi hm
   clear hdl
   by_cases he : (getL (l.drop at_)).2.2 = 0
   ·obtain ⟨hk, hk2, hn64⟩ := getL_ok he
    have HST := Hi (stNum_ok he)
    have HNUM := Hi (rdNum_any p ra rc l at_ 0 w2 HV2.out.rd)
    rw [HST.out] at HNUM
    by_cases hn32 : (getL (l.drop at_)).1 < 2 ^ 32
    ·have HE2 : Hid (rpGo rows l = (c ++ [(getL (l.drop at_)).1]) ++ rpGo (rows - (c.length + 1)) (l.drop (at_ + (getL (l.drop at_)).2.1))) := Hi (by
      rw [hE.out, hm, rpGo_on m hne he hn32, show rows - (c.length + 1) = m by omega, List.drop_drop]
      simp)
     clear hE hm hne he HST
     generalize (getL (l.drop at_)).1 = n at *
     generalize (getL (l.drop at_)).2.1 = k at *
     have hdec : decide (n < 2 ^ 32) = true := decide_eq_true hn32
     have hmod : n % 2 ^ 32 = n := Nat.mod_eq_of_lt hn32
     have HTK := Hi (fun W => taken_any n W hn64)
     rw [hdec, hmod] at HTK
     clear hdec hmod
     go_wp2_with fail
     refine HNUM.out.mono ?_
     rintro e w3 ⟨rfl, hrd3, hm3⟩
     have HV3 := Hi (HV2.out.num hrd3 hm3)
     clear hrd3 hm3 HV2 HNUM
     go_wp2_with fail
     refine (HTK.out _).mono ?_
     rintro e w4 ⟨rfl, hw4⟩
     obtain rfl : w3 = w4 := hw4
     go_wp2_with fail
     refine (rerr_any p _ _ _ _ w3 HV3.out.rd.heap).mono ?_
     rintro e w4 ⟨rfl, hw4⟩
     obtain rfl : w3 = w4 := hw4
     have hown : Mine.Own w3 58 1 oa c.length oc (u32s c) := by have h1 := HV3.out.own; rwa [u32s_len] at h1
     go_wp2_with (at_builtin; refine wpL_appendN (us := [.int .u32 (n : Nat)]) rfl (.tmp 33) (.tmp 35) 162 rfl tiU32 rfl hown rfl rfl rfl (by show (c.length + 1) * 4 ≤ _; omega) (by show c.length + 1 ≤ _; unfold maxLen; omega) ?_; intro a3 c3 w5 hO3 hG3 _
                  have HV5 : Hid (VS w1 w5 p ra rc l (at_ + k) 0 a3 c3 (u32s (c ++ [n]))) := Hi (by
                   rw [u32s_snoc]
                   exact HV3.out.app hG3 hO3 (by simp)); clear hO3 hG3)
     go_roundw
     case rel => exact ⟨c ++ [n], at_ + k, a3, c3, by simp, by simp; omega, by have := HDL.out; omega, Hi (by rw [HE2.out]; simp), HV5⟩
     case measure => show rows - (c.length + 1) < rows - c.length; omega
    ·have HEND : Hid (rpGo rows l = c) := Hi (by rw [hE.out, rpGo_off _ (.inr (.inr (by omega))), List.append_nil])
     clear hE hm hne he HST
     generalize (getL (l.drop at_)).1 = n at *
     generalize (getL (l.drop at_)).2.1 = k at *
     have hdec : decide (n < 2 ^ 32) = false := decide_eq_false hn32
     have HTK := Hi (fun W => taken_any n W hn64)
     rw [hdec] at HTK
     clear hdec
     go_wp2_with fail
     refine HNUM.out.mono ?_
     rintro e w3 ⟨rfl, hrd3, hm3⟩
     have HV3 := Hi (HV2.out.num hrd3 hm3)
     clear hrd3 hm3 HV2 HNUM
     go_wp2_with fail
     refine (HTK.out _).mono ?_
     rintro e w4 ⟨rfl, hw4⟩
     obtain rfl : w3 = w4 := hw4
     go_wp2_with fail
     refine (rerr_any p _ _ _ _ w3 HV3.out.rd.heap).mono ?_
     rintro e w4 ⟨rfl, hw4⟩
     obtain rfl : w3 = w4 := hw4
     go_wp2_with fail
     go_ret
     rw [HEND.out]
     exact ⟨oa, oc, rfl, HV3.out.post HM.out HP.out⟩
   ·have HST := Hi (stNum_err he)
    have HNUM := Hi (rdNum_any p ra rc l at_ 0 w2 HV2.out.rd)
    rw [HST.out] at HNUM
    have HEND : Hid (rpGo rows l = c) := Hi (by rw [hE.out, rpGo_off _ (.inr (.inl he)), List.append_nil])
    clear hE hm hne HST
    generalize (getL (l.drop at_)).2.2 = er at *
    have hne : ((er : Int) != 0) = true := by simp; omega
    have HTK := Hi (fun W => taken_any 0 W (by omega))
    go_wp2_with fail
    refine HNUM.out.mono ?_
    rintro e w3 ⟨rfl, hrd3, hm3⟩
    have HV3 := Hi (HV2.out.num hrd3 hm3)
    clear hrd3 hm3 HV2 HNUM
    go_wp2_with fail
    refine (HTK.out _).mono ?_
    rintro e w4 ⟨rfl, hw4⟩
    obtain rfl : w3 = w4 := hw4
    go_wp2_with fail
    refine (rerr_any p _ _ _ _ w3 HV3.out.rd.heap).mono ?_
    rintro e w4 ⟨rfl, hw4⟩
    obtain rfl : w3 = w4 := hw4
    go_wp2_with fail
    go_ret
    rw [HEND.out]
    exact ⟨oa, oc, rfl, HV3.out.post HM.out HP.out⟩
  ·have HEND : Hid (rpGo rows l = c) := Hi (by
    rw [hE.out, show rpGo (rows - c.length) (l.drop at_) = [] from ?_, List.append_nil]
    by_cases h1 : at_ < l.length
    ·have h2 : rows - c.length = 0 := by omega
     rw [h2]; rfl
    ·rw [List.drop_eq_nil_of_le (by omega), rpGo_nil])
   clear hE
   by_cases h1 : at_ < l.length
   ·have h0 : 0 < l.length - at_ := by omega
    have h2 : ¬ c.length < rows := fun h => hgo ⟨h1, h⟩
    clear hgo
    go_wp2_with fail
    refine HL.out.mono ?_
    rintro e w2 ⟨rfl, hm2⟩
    have HV2 := Hi (hV.out.mod0 hm2)
    clear hm2 hV HL
    go_wp2_with fail
    go_ret
    rw [HEND.out]
    exact ⟨oa, oc, rfl, HV2.out.post HM.out HP.out⟩
   ·have h0 : ¬ 0 < l.length - at_ := by omega
    clear hgo
    go_wp2_with fail
    refine HL.out.mono ?_
    rintro e w2 ⟨rfl, hm2⟩
    have HV2 := Hi (hV.out.mod0 hm2)
    clear hm2 hV HL
    go_wp2_with fail
    go_ret
    rw [HEND.out]
    exact ⟨oa, oc, rfl, HV2.out.post HM.out HP.out⟩
end Go.Proofs.YtjoiaejbahdjkaaGreat
/-
  The program's reading of a column by differences: walked.
-/
namespace Go.Proofs.YtjoiaejbahdjkaaGreat
open Go Go.RowKit Go.Mine
set_option linter.unusedVariables false
set_option maxHeartbeats 4000000
set_option maxRecDepth 100000
theorem rdGoD_nil (m : Nat) (p : Option Nat) : rdGoD m p [] = [] := by cases m <;> simp [rdGoD]
theorem rdGoD_on (m : Nat) (p : Option Nat) {l : List UInt8} (h0 : l ≠ []) (h1 : (getL l).2.2 = 0) (h2 : nextN p (getL l).1 < 2 ^ 32) : rdGoD (m + 1) p l = nextN p (getL l).1 :: rdGoD m (some (nextN p (getL l).1)) (l.drop (getL l).2.1) := by
 rw [rdGoD, if_neg (by rintro (h | h | h); exact h0 h; exact h h1; omega)]
theorem rdGoD_off (m : Nat) (p : Option Nat) {l : List UInt8} (h : l = [] ∨ (getL l).2.2 ≠ 0 ∨ 2 ^ 32 ≤ nextN p (getL l).1) : rdGoD m p l = [] := by
 cases m with
 | zero => rfl
 | succ m => rw [rdGoD, if_pos h]
def lastO (c : List Nat) : Option Nat := c.getLast?
theorem lastO_snoc (c : List Nat) (n : Nat) : lastO (c ++ [n]) = some n := by simp [lastO]
theorem readP2_any (a : Option Addr) (d rows : Nat) (l : List UInt8) (w : World) (hr : Rd w a (bts l)) (hl : l.length < 2 ^ 40) (hnil : a = none → d = 0) (hrows : rows ≤ 65536) :
 Calls Tryz.prog 178 #[.slice a l.length d, .int .i64 rows] w (RPost (rdGoD rows none l) w) := by
 have HN := Hi (newReader_any a d l w hr hl hnil)
 clear hr hnil
 go_enter Tryz.func178, Tryz.ntmps178
 go_wp2_with fail
 refine HN.out.mono ?_
 rintro e w1 ⟨p, ra, rc, rfl, hRD, hp, hm, _⟩
 have HR := Hi hRD; have HP := Hi hp; have HM := Hi hm
 clear hRD hp hm HN
 go_wp2_with fail
 go_loopw [5, 7, 8, 9] (fun cv _ _ _ wr => ∃ (c : List Nat) (at_ : Nat) (oa : Option Addr) (oc : Nat), cv = .slice oa c.length oc ∧ c.length ≤ rows ∧ at_ ≤ l.length ∧ Hid (U32 c) ∧ Hid (rdGoD rows none l = c ++ rdGoD (rows - c.length) (lastO c) (l.drop at_)) ∧ Hid (VS w1 wr p ra rc l at_ 0 oa oc (u32s c))) (fun cv _ _ _ _ => match cv with | .slice _ n _ => rows - n | _ => 0)
 case atStart => exact ⟨[], 0, none, 0, rfl, Nat.zero_le _, Nat.zero_le _, Hi (fun x hx => by cases hx), Hi (by simp [lastO]), Hi (VS.start HR.out)⟩
 case round =>
  obtain ⟨c, at_, oa, oc, rfl, hc, hat, hU, hE, hV⟩ := hrel
  have HL := Hi (rleft_any p ra l.length rc at_ _ _ wr hV.out.rd.heap hat hl)
  rename World => w9
  by_cases hgo : at_ < l.length ∧ c.length < rows
  ·obtain ⟨h1, h2⟩ := hgo
   have h0 : 0 < l.length - at_ := by omega
   go_wp2_with fail
   refine HL.out.mono ?_
   rintro e w2 ⟨rfl, hm2⟩
   have HV2 := Hi (hV.out.mod0 hm2)
   clear hm2 hV HL
   have hdl : (l.drop at_).length = l.length - at_ := List.length_drop
   have hne : l.drop at_ ≠ [] := by intro e; rw [e] at hdl; simp at hdl; omega
   obtain ⟨m, hm⟩ : ∃ m, rows - c.length = m + 1 := ⟨rows - c.length - 1, by omega⟩
   have HDL := Hi hdl
   have HMM := Hi hm
   clear hdl
   have HNUM := Hi (rdNum_any p ra rc l at_ 0 w2 HV2.out.rd)
   go_wp2_with fail
   by_cases he : (getL (l.drop at_)).2.2 = 0
   ·obtain ⟨hk, hk2, hn64⟩ := getL_ok he
    have HST := Hi (stNum_ok he)
    rw [HST.out] at HNUM
    have HON : Hid (nextN (lastO c) (getL (l.drop at_)).1 < 2 ^ 32 → rdGoD rows none l = (c ++ [nextN (lastO c) (getL (l.drop at_)).1]) ++ rdGoD (rows - (c.length + 1)) (lastO (c ++ [nextN (lastO c) (getL (l.drop at_)).1])) (l.drop (at_ + (getL (l.drop at_)).2.1))) := Hi (fun h32 => by
     rw [hE.out, hm, rdGoD_on m _ hne he h32, show rows - (c.length + 1) = m by omega, List.drop_drop, lastO_snoc]
     simp)
    have HOFF : Hid (2 ^ 32 ≤ nextN (lastO c) (getL (l.drop at_)).1 → rdGoD rows none l = c) := Hi (fun h32 => by
     rw [hE.out, rdGoD_off _ _ (.inr (.inr h32)), List.append_nil])
    clear hE hm hne he HST
    generalize (getL (l.drop at_)).1 = n at *
    generalize (getL (l.drop at_)).2.1 = k at *
    rcases List.eq_nil_or_concat c with hcn | ⟨c', q, hcn⟩
    ·have hc0 : ¬ 0 < c.length := by rw [hcn]; simp
     have hx : nextN (lastO c) n = n := by rw [hcn]; rfl
     rw [hx] at HON HOFF
     have hx64 := hn64
     clear hcn hx
     generalize n = x at *
     refine HNUM.out.mono ?_
     rintro e w3 ⟨rfl, hrd3, hm3⟩
     have HV3 := Hi (HV2.out.num hrd3 hm3)
     clear hrd3 hm3 HV2 HNUM
     go_wp2_with fail
     by_cases h32 : x < 2 ^ 32
     ·have hdec : decide (x < 2 ^ 32) = true := decide_eq_true h32
      have hmod : x % 2 ^ 32 = x := Nat.mod_eq_of_lt h32
      have HTK := Hi (fun W => taken_any x W hx64)
      rw [hdec, hmod] at HTK
      clear hdec hmod
      refine (HTK.out _).mono ?_
      rintro e w6 ⟨rfl, hw6⟩
      have HV6 : Hid (VS w1 w6 p ra rc l (at_ + k) 0 oa oc (u32s c)) := Hi (hw6 ▸ HV3.out)
      clear hw6
      go_wp2_with fail
      refine (rerr_any p _ _ _ _ w6 HV6.out.rd.heap).mono ?_
      rintro e w7 ⟨rfl, hw7⟩
      obtain rfl : w6 = w7 := hw7
      have hown : Mine.Own w6 58 1 oa c.length oc (u32s c) := by have h1 := HV6.out.own; rwa [u32s_len] at h1
      go_wp2_with (at_builtin; refine wpL_appendN (us := [.int .u32 (x : Nat)]) rfl (.tmp 49) (.tmp 51) 162 rfl tiU32 rfl hown rfl rfl rfl (by show (c.length + 1) * 4 ≤ _; omega) (by show c.length + 1 ≤ _; unfold maxLen; omega) ?_; intro a3 c3 w5 hO3 hG3 _
                   have HV5 : Hid (VS w1 w5 p ra rc l (at_ + k) 0 a3 c3 (u32s (c ++ [x]))) := Hi (by
                    rw [u32s_snoc]
                    exact HV6.out.app hG3 hO3 (by simp)); clear hO3 hG3)
      go_roundw
      case rel => exact ⟨c ++ [x], at_ + k, a3, c3, by simp, by simp; omega, by have := HDL.out; omega, Hi (fun y hy => by
       rcases List.mem_append.1 hy with hy | hy
       ·exact hU.out y hy
       ·rw [List.mem_singleton] at hy; rw [hy]; exact h32), Hi (by rw [HON.out h32]; simp), HV5⟩
      case measure => show rows - (c.length + 1) < rows - c.length; omega
     ·have hdec : decide (x < 2 ^ 32) = false := decide_eq_false h32
      have HTK := Hi (fun W => taken_any x W hx64)
      rw [hdec] at HTK
      clear hdec
      refine (HTK.out _).mono ?_
      rintro e w6 ⟨rfl, hw6⟩
      have HV6 : Hid (VS w1 w6 p ra rc l (at_ + k) 0 oa oc (u32s c)) := Hi (hw6 ▸ HV3.out)
      clear hw6
      go_wp2_with fail
      refine (rerr_any p _ _ _ _ w6 HV6.out.rd.heap).mono ?_
      rintro e w7 ⟨rfl, hw7⟩
      obtain rfl : w6 = w7 := hw7
      go_wp2_with fail
      go_ret
      rw [HOFF.out (Nat.le_of_not_lt h32)]
      exact ⟨oa, oc, rfl, HV6.out.post HM.out HP.out⟩
    ·have hc0 : 0 < c.length := by rw [hcn]; simp
     have hlq : lastO c = some q := by rw [hcn]; simp [lastO]
     rw [hlq] at HON HOFF
     have HQ : Hid (c[c.length - 1]'(by omega) = q) := Hi (by subst hcn; simp)
     have hq : q < 2 ^ 32 := hU.out q (by rw [hcn]; simp)
     have hnc := next_cast hq hn64
     have hx64 : nextN (some q) n < 2 ^ 64 := by unfold nextN; simp only; omega
     have HBK := Hi (fun W => backP_any n hn64 W)
     clear hcn hlq
     generalize nextN (some q) n = x at *
     generalize hbk : backN n = bk at *
     clear hbk
     obtain ⟨b, o, rfl, _⟩ := u32_cell (c := c) (i := c.length - 1) HV2.out.own.rd (by omega)
     refine HNUM.out.mono ?_
     rintro e w3 ⟨rfl, hrd3, hm3⟩
     have HV3 := Hi (HV2.out.num hrd3 hm3)
     clear hrd3 hm3 HV2 HNUM
     go_wp2_with fail
     have x0 : w3.cell? ⟨b, o + (c.length - 1), none⟩ = some (.int .u32 (q : Nat)) := by
      obtain ⟨b', o', e, h⟩ := u32_cell (HV3.out.own.rd) (c := c) (i := c.length - 1) (by omega)
      injection e with e
      injection e with e1 e2
      subst e1
      subst e2
      rw [h, HQ.out]
     refine wp_region_ord (fun w' => w'.cell? ⟨b, o + (c.length - 1), none⟩ = some (.int .u32 (q : Nat))) [(0, 0), (0, 1), (0, 2), (0, 3), (0, 4), (1, 5), (0, 6), (0, 7), (2, 8), (0, 9), (0, 10), (0, 11)] (by kernel_rfl) (by kernel_rfl) ?_
     go_wp2_with (first
      |(refine ord_pure rfl rfl rfl (fun K hK => ?_); go_big_quiet_op; refine hK _ ?_; clear hK K)
      |(refine ord_held rfl rfl rfl (x0) (fun K hK => ?_); apply Exists.intro; refine ⟨fun w' hs => ?_, hK _ ?_⟩; (revert hs; dsimp only; (try simp only [and_imp]); intros; go_simp; rfl); clear hK K)
      |(refine ord_keep rfl rfl (x0) (fun K hK => ?_))
      |(refine ord_nil ?_))
     refine (HBK.out _).mono ?_
     rintro e w4 ⟨rfl, hw4⟩
     have HV4 : Hid (VS w1 w4 p ra rc l _ _ (some ⟨b, o, none⟩) oc (u32s c)) := Hi (by rw [← hw4]; exact HV3.out.mod0 (Mod.refl _ w3).drew)
     have x4 : w4.cell? ⟨b, o + (c.length - 1), none⟩ = some (.int .u32 (q : Nat)) := by rw [← hw4]; simpa using x0
     refine hK _ _ x4 ?_
     clear hw4 x0 x4 hK K
     go_wp2_with (first
      |(refine ord_pure rfl rfl rfl (fun K hK => ?_); go_big_quiet_op; refine hK _ ?_; clear hK K)
      |(refine ord_held rfl rfl rfl (trivial) (fun K hK => ?_); apply Exists.intro; refine ⟨fun w' hs => ?_, hK _ ?_⟩; (revert hs; dsimp only; (try simp only [and_imp]); intros; go_simp; rfl); clear hK K)
      |(refine ord_keep rfl rfl (trivial) (fun K hK => ?_))
      |(refine ord_nil ?_))
     by_cases h32 : x < 2 ^ 32
     ·have hdec : decide (x < 2 ^ 32) = true := decide_eq_true h32
      have hmod : x % 2 ^ 32 = x := Nat.mod_eq_of_lt h32
      have HTK := Hi (fun W => taken_any x W hx64)
      rw [hdec, hmod] at HTK
      clear hdec hmod
      refine (HTK.out _).mono ?_
      rintro e w6 ⟨rfl, hw6⟩
      have HV6 : Hid (VS w1 w6 p ra rc l (at_ + k) 0 (some ⟨b, o, none⟩) oc (u32s c)) := Hi (hw6 ▸ HV4.out)
      clear hw6
      go_wp2_with fail
      refine (rerr_any p _ _ _ _ w6 HV6.out.rd.heap).mono ?_
      rintro e w7 ⟨rfl, hw7⟩
      obtain rfl : w6 = w7 := hw7
      have hown : Mine.Own w6 58 1 (some ⟨b, o, none⟩) c.length oc (u32s c) := by have h1 := HV6.out.own; rwa [u32s_len] at h1
      go_wp2_with (at_builtin; refine wpL_appendN (us := [.int .u32 (x : Nat)]) rfl (.tmp 49) (.tmp 51) 162 rfl tiU32 rfl hown rfl rfl rfl (by show (c.length + 1) * 4 ≤ _; omega) (by show c.length + 1 ≤ _; unfold maxLen; omega) ?_; intro a3 c3 w5 hO3 hG3 _
                   have HV5 : Hid (VS w1 w5 p ra rc l (at_ + k) 0 a3 c3 (u32s (c ++ [x]))) := Hi (by
                    rw [u32s_snoc]
                    exact HV6.out.app hG3 hO3 (by simp)); clear hO3 hG3)
      go_roundw
      case rel => exact ⟨c ++ [x], at_ + k, a3, c3, by simp, by simp; omega, by have := HDL.out; omega, Hi (fun y hy => by
       rcases List.mem_append.1 hy with hy | hy
       ·exact hU.out y hy
       ·rw [List.mem_singleton] at hy; rw [hy]; exact h32), Hi (by rw [HON.out h32]; simp), HV5⟩
      case measure => show rows - (c.length + 1) < rows - c.length; omega
     ·have hdec : decide (x < 2 ^ 32) = false := decide_eq_false h32
      have HTK := Hi (fun W => taken_any x W hx64)
      rw [hdec] at HTK
      clear hdec
      refine (HTK.out _).mono ?_
      rintro e w6 ⟨rfl, hw6⟩
      have HV6 : Hid (VS w1 w6 p ra rc l (at_ + k) 0 (some ⟨b, o, none⟩) oc (u32s c)) := Hi (hw6 ▸ HV4.out)
      clear hw6
      go_wp2_with fail
      refine (rerr_any p _ _ _ _ w6 HV6.out.rd.heap).mono ?_
      rintro e w7 ⟨rfl, hw7⟩
      obtain rfl : w6 = w7 := hw7
      go_wp2_with fail
      go_ret
      rw [HOFF.out (Nat.le_of_not_lt h32)]
      exact ⟨(some ⟨b, o, none⟩), oc, rfl, HV6.out.post HM.out HP.out⟩
   ·have HST := Hi (stNum_err he)
    rw [HST.out] at HNUM
    have HEND : Hid (rdGoD rows none l = c) := Hi (by rw [hE.out, rdGoD_off _ _ (.inr (.inl he)), List.append_nil])
    clear hE hm hne HST
    generalize (getL (l.drop at_)).2.2 = er at *
    have hne : ((er : Int) != 0) = true := by simp; omega
    rcases List.eq_nil_or_concat c with hcn | ⟨c', q, hcn⟩
    ·have hc0 : ¬ 0 < c.length := by rw [hcn]; simp
     clear hcn
     obtain ⟨x, hx0⟩ : ∃ x : Nat, x = 0 := ⟨_, rfl⟩
     have hx64 : x < 2 ^ 64 := by omega
     have HNUM : Hid (Calls Tryz.prog 32 #[.pointer (some ⟨p, 0, none⟩)] w2 fun e w' => e = .returned (.int .u64 x) ∧ RdAt w' p ra rc l at_ er ∧ Mod (fun b => b = p) w2 w') := Hi (by rw [hx0]; exact HNUM.out)
     clear hx0
     refine HNUM.out.mono ?_
     rintro e w3 ⟨rfl, hrd3, hm3⟩
     have HV3 := Hi (HV2.out.num hrd3 hm3)
     clear hrd3 hm3 HV2 HNUM
     go_wp2_with fail
     have HTK := Hi (fun W => taken_any x W hx64)
     generalize hdec : decide (x < 2 ^ 32) = dc at *
     clear hdec
     refine (HTK.out _).mono ?_
     rintro e w6 ⟨rfl, hw6⟩
     have HV6 : Hid (VS w1 w6 p ra rc l at_ er oa oc (u32s c)) := Hi (hw6 ▸ HV3.out)
     clear hw6
     go_wp2_with fail
     refine (rerr_any p _ _ _ _ w6 HV6.out.rd.heap).mono ?_
     rintro e w7 ⟨rfl, hw7⟩
     obtain rfl : w6 = w7 := hw7
     go_wp2_with fail
     go_ret
     rw [HEND.out]
     exact ⟨oa, oc, rfl, HV6.out.post HM.out HP.out⟩
    ·have hc0 : 0 < c.length := by rw [hcn]; simp
     have HQ : Hid (c[c.length - 1]'(by omega) = q) := Hi (by subst hcn; simp)
     have hq : q < 2 ^ 32 := hU.out q (by rw [hcn]; simp)
     have hnc := next_cast hq (show (0 : Nat) < 2 ^ 64 by omega)
     have hx64 : nextN (some q) 0 < 2 ^ 64 := by unfold nextN; simp only; omega
     have HBK := Hi (fun W => backP_any 0 (by omega) W)
     clear hcn
     generalize nextN (some q) 0 = x at *
     generalize hbk : backN 0 = bk at *
     clear hbk
     obtain ⟨b, o, rfl, _⟩ := u32_cell (c := c) (i := c.length - 1) HV2.out.own.rd (by omega)
     refine HNUM.out.mono ?_
     rintro e w3 ⟨rfl, hrd3, hm3⟩
     have HV3 := Hi (HV2.out.num hrd3 hm3)
     clear hrd3 hm3 HV2 HNUM
     go_wp2_with fail
     have x0 : w3.cell? ⟨b, o + (c.length - 1), none⟩ = some (.int .u32 (q : Nat)) := by
      obtain ⟨b', o', e, h⟩ := u32_cell (HV3.out.own.rd) (c := c) (i := c.length - 1) (by omega)
      injection e with e
      injection e with e1 e2
      subst e1
      subst e2
      rw [h, HQ.out]
     refine wp_region_ord (fun w' => w'.cell? ⟨b, o + (c.length - 1), none⟩ = some (.int .u32 (q : Nat))) [(0, 0), (0, 1), (0, 2), (0, 3), (0, 4), (1, 5), (0, 6), (0, 7), (2, 8), (0, 9), (0, 10), (0, 11)] (by kernel_rfl) (by kernel_rfl) ?_
     go_wp2_with (first
      |(refine ord_pure rfl rfl rfl (fun K hK => ?_); go_big_quiet_op; refine hK _ ?_; clear hK K)
      |(refine ord_held rfl rfl rfl (x0) (fun K hK => ?_); apply Exists.intro; refine ⟨fun w' hs => ?_, hK _ ?_⟩; (revert hs; dsimp only; (try simp only [and_imp]); intros; go_simp; rfl); clear hK K)
      |(refine ord_keep rfl rfl (x0) (fun K hK => ?_))
      |(refine ord_nil ?_))
     refine (HBK.out _).mono ?_
     rintro e w4 ⟨rfl, hw4⟩
     have HV4 : Hid (VS w1 w4 p ra rc l _ _ (some ⟨b, o, none⟩) oc (u32s c)) := Hi (by rw [← hw4]; exact HV3.out.mod0 (Mod.refl _ w3).drew)
     have x4 : w4.cell? ⟨b, o + (c.length - 1), none⟩ = some (.int .u32 (q : Nat)) := by rw [← hw4]; simpa using x0
     refine hK _ _ x4 ?_
     clear hw4 x0 x4 hK K
     go_wp2_with (first
      |(refine ord_pure rfl rfl rfl (fun K hK => ?_); go_big_quiet_op; refine hK _ ?_; clear hK K)
      |(refine ord_held rfl rfl rfl (trivial) (fun K hK => ?_); apply Exists.intro; refine ⟨fun w' hs => ?_, hK _ ?_⟩; (revert hs; dsimp only; (try simp only [and_imp]); intros; go_simp; rfl); clear hK K)
      |(refine ord_keep rfl rfl (trivial) (fun K hK => ?_))
      |(refine ord_nil ?_))
     have HTK := Hi (fun W => taken_any x W hx64)
     generalize hdec : decide (x < 2 ^ 32) = dc at *
     clear hdec
     refine (HTK.out _).mono ?_
     rintro e w6 ⟨rfl, hw6⟩
     have HV6 : Hid (VS w1 w6 p ra rc l at_ er (some ⟨b, o, none⟩) oc (u32s c)) := Hi (hw6 ▸ HV4.out)
     clear hw6
     go_wp2_with fail
     refine (rerr_any p _ _ _ _ w6 HV6.out.rd.heap).mono ?_
     rintro e w7 ⟨rfl, hw7⟩
     obtain rfl : w6 = w7 := hw7
     go_wp2_with fail
     go_ret
     rw [HEND.out]
     exact ⟨(some ⟨b, o, none⟩), oc, rfl, HV6.out.post HM.out HP.out⟩
  ·have HEND : Hid (rdGoD rows none l = c) := Hi (by
    rw [hE.out, show rdGoD (rows - c.length) (lastO c) (l.drop at_) = [] from ?_, List.append_nil]
    by_cases h1 : at_ < l.length
    ·have h2 : rows - c.length = 0 := by omega
     rw [h2]; rfl
    ·rw [List.drop_eq_nil_of_le (by omega), rdGoD_nil])
   clear hE
   by_cases h1 : at_ < l.length
   ·have h0 : 0 < l.length - at_ := by omega
    have h2 : ¬ c.length < rows := fun h => hgo ⟨h1, h⟩
    clear hgo
    go_wp2_with fail
    refine HL.out.mono ?_
    rintro e w2 ⟨rfl, hm2⟩
    have HV2 := Hi (hV.out.mod0 hm2)
    clear hm2 hV HL
    go_wp2_with fail
    go_ret
    rw [HEND.out]
    exact ⟨oa, oc, rfl, HV2.out.post HM.out HP.out⟩
   ·have h0 : ¬ 0 < l.length - at_ := by omega
    clear hgo
    go_wp2_with fail
    refine HL.out.mono ?_
    rintro e w2 ⟨rfl, hm2⟩
    have HV2 := Hi (hV.out.mod0 hm2)
    clear hm2 hV HL
    go_wp2_with fail
    go_ret
    rw [HEND.out]
    exact ⟨oa, oc, rfl, HV2.out.post HM.out HP.out⟩
end Go.Proofs.YtjoiaejbahdjkaaGreat
