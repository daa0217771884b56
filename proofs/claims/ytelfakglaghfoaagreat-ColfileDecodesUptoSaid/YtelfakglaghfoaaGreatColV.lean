/-
  The program's sizes of a column: walked.
-/
import Derived.Test.YtelfakglaghfoaaGreatColU
import Derived.Test.YtelfakglaghfoaaGreatColE
namespace Go.Proofs.YtelfakglaghfoaaGreat
open Go Go.RowKit Go.Mine
set_option linter.unusedVariables false
set_option maxHeartbeats 8000000
set_option maxRecDepth 100000

theorem len20 {n : Nat} (h : n < 2 ^ 64) : (lebl n).length ≤ 20 := by have := lebl_len64 n h; omega
theorem getD_u32 {c : List Nat} (hu : U32 c) (k : Nat) : c.getD k 0 < 2 ^ 32 := by
  rw [List.getD_eq_getElem?_getD]
  by_cases h : k < c.length
  · rw [List.getElem?_eq_getElem h]; exact hu _ (List.getElem_mem h)
  · rw [List.getElem?_eq_none (by omega)]; show (0 : Nat) < _; omega
theorem stepL_u {c : List Nat} (hu : U32 c) (k : Nat) : stepL c k < 2 ^ 33 := by
  unfold stepL
  split
  · have := getD_u32 hu 0; omega
  · have h1 := getD_u32 hu k
    have h2 := getD_u32 hu (k - 1)
    exact turnN_lt (by omega) (by omega)
theorem size1_any (a : Option Addr) (d : Nat) (c : List Nat) (w : World) (hr : Rd w a (u32s c)) (hu : U32 c) (hn : c.length < 2 ^ 32) :
    Calls Tryz.prog 83 #[.slice a c.length d] w fun e w' => e = .returned (.int .i64 ((layP c).length : Nat)) ∧ Mod (fun _ => False) w w' := by
  have m1 : Mod (fun _ => False) w (w.alloc (.cells #[.slice a c.length d] 68)) := (Mod.refl _ w).alloc _
  have hb : CBox (w.alloc (.cells #[.slice a c.length d] 68)) w.heap.size a d c := ⟨cell_at (heap_alloc_new w _) rfl, hr.mod m1 (fun _ _ => id)⟩
  have c0 := hb.1
  have HS := Lib.hid (sum1_any w.heap.size a d c (fun k => (lebl (c.getD k 0)).length) (w.alloc (.cells #[.slice a c.length d] 68)) hn (fun k => len20 (by have := getD_u32 hu k; omega)) (fun k hk W m => sz1_any w.heap.size a d c k W (hb.mod0 m) hu hk hn))
  have HSUM : Hid (sumTo (fun k => (lebl (c.getD k 0)).length) c.length = (layP c).length) := Lib.hid (layP_sum c)
  rw [HSUM.out] at HS
  have HM1 := Lib.hid m1
  clear hr hu hb m1
  go_enter Tryz.func83, Tryz.ntmps83
  go_wp2_with fail
  refine HS.out.mono ?_
  rintro e w' ⟨rfl, hm⟩
  go_wp2_with fail
  go_ret
  exact ⟨rfl, HM1.out.trans hm⟩
theorem size2_any (a : Option Addr) (d : Nat) (c : List Nat) (w : World) (hr : Rd w a (u32s c)) (hu : U32 c) (hn : c.length < 2 ^ 32) :
    Calls Tryz.prog 90 #[.slice a c.length d] w fun e w' => e = .returned (.int .i64 ((layD c).length : Nat)) ∧ Mod (fun _ => False) w w' := by
  have m1 : Mod (fun _ => False) w (w.alloc (.cells #[.slice a c.length d] 68)) := (Mod.refl _ w).alloc _
  have hb : CBox (w.alloc (.cells #[.slice a c.length d] 68)) w.heap.size a d c := ⟨cell_at (heap_alloc_new w _) rfl, hr.mod m1 (fun _ _ => id)⟩
  have c0 := hb.1
  have HS := Lib.hid (sum2_any w.heap.size a d c (fun k => (lebl (stepL c k)).length) (w.alloc (.cells #[.slice a c.length d] 68)) hn (fun k => len20 (by have := stepL_u hu k; omega)) (fun k hk W m => sz2_any w.heap.size a d c k W (hb.mod0 m) hu hk hn))
  have HSUM : Hid (sumTo (fun k => (lebl (stepL c k)).length) c.length = (layD c).length) := Lib.hid (layD_sum c)
  rw [HSUM.out] at HS
  have HM1 := Lib.hid m1
  clear hr hu hb m1
  go_enter Tryz.func90, Tryz.ntmps90
  go_wp2_with fail
  refine HS.out.mono ?_
  rintro e w' ⟨rfl, hm⟩
  go_wp2_with fail
  go_ret
  exact ⟨rfl, HM1.out.trans hm⟩
theorem ways_any (w : World) : Calls Tryz.prog 63 #[] w fun e w' => e = .returned (.agg #[.func (.func 83) #[] #[], .func (.func 87) #[] #[], .func (.func 89) #[] #[], .func (.func 90) #[] #[], .func (.func 93) #[] #[], .func (.func 94) #[] #[], .func (.func 95) #[] #[], .func (.func 97) #[] #[], .func (.func 98) #[] #[], .func (.func 99) #[] #[], .func (.func 101) #[] #[], .func (.func 102) #[] #[]]) ∧ Mod (fun _ => False) w w' := by
  go_enter Tryz.func63, Tryz.ntmps63
  go_wp2_with fail
  have h0 := heap_alloc_new w (.cells #[.func (.func 83) #[] #[], .func (.func 87) #[] #[], .func (.func 89) #[] #[], .func (.func 90) #[] #[], .func (.func 93) #[] #[], .func (.func 94) #[] #[], .func (.func 95) #[] #[], .func (.func 97) #[] #[], .func (.func 98) #[] #[], .func (.func 99) #[] #[], .func (.func 101) #[] #[], .func (.func 102) #[] #[]] 118)
  have c0 := cell_at (j := 0) h0 rfl; have c1 := cell_at (j := 1) h0 rfl; have c2 := cell_at (j := 2) h0 rfl; have c3 := cell_at (j := 3) h0 rfl; have c4 := cell_at (j := 4) h0 rfl; have c5 := cell_at (j := 5) h0 rfl; have c6 := cell_at (j := 6) h0 rfl; have c7 := cell_at (j := 7) h0 rfl; have c8 := cell_at (j := 8) h0 rfl; have c9 := cell_at (j := 9) h0 rfl; have c10 := cell_at (j := 10) h0 rfl; have c11 := cell_at (j := 11) h0 rfl
  have hm : Mod (fun _ => False) w (w.alloc (.cells #[.func (.func 83) #[] #[], .func (.func 87) #[] #[], .func (.func 89) #[] #[], .func (.func 90) #[] #[], .func (.func 93) #[] #[], .func (.func 94) #[] #[], .func (.func 95) #[] #[], .func (.func 97) #[] #[], .func (.func 98) #[] #[], .func (.func 99) #[] #[], .func (.func 101) #[] #[], .func (.func 102) #[] #[]] 118)) := (Mod.refl _ w).alloc _
  generalize w.alloc (.cells #[.func (.func 83) #[] #[], .func (.func 87) #[] #[], .func (.func 89) #[] #[], .func (.func 90) #[] #[], .func (.func 93) #[] #[], .func (.func 94) #[] #[], .func (.func 95) #[] #[], .func (.func 97) #[] #[], .func (.func 98) #[] #[], .func (.func 99) #[] #[], .func (.func 101) #[] #[], .func (.func 102) #[] #[]] 118) = w5 at *
  refine bodyPost_ret (v := .agg #[.func (.func 83) #[] #[], .func (.func 87) #[] #[], .func (.func 89) #[] #[], .func (.func 90) #[] #[], .func (.func 93) #[] #[], .func (.func 94) #[] #[], .func (.func 95) #[] #[], .func (.func 97) #[] #[], .func (.func 98) #[] #[], .func (.func 99) #[] #[], .func (.func 101) #[] #[], .func (.func 102) #[] #[]]) ?_ rfl ⟨rfl, hm⟩
  simp [results, Tryz.f63, go_sem, c0, c1, c2, c3, c4, c5, c6, c7, c8, c9, c10, c11]
theorem idx0 (w : World) : (Instr.index 118 (.agg #[.func (.func 83) #[] #[], .func (.func 87) #[] #[], .func (.func 89) #[] #[], .func (.func 90) #[] #[], .func (.func 93) #[] #[], .func (.func 94) #[] #[], .func (.func 95) #[] #[], .func (.func 97) #[] #[], .func (.func 98) #[] #[], .func (.func 99) #[] #[], .func (.func 101) #[] #[], .func (.func 102) #[] #[]]) (.int .i64 0)).run Tryz.prog w = .ok (.agg #[.func (.func 83) #[] #[], .func (.func 87) #[] #[], .func (.func 89) #[] #[]]) w := by kernel_rfl
theorem idx1 (w : World) : (Instr.index 118 (.agg #[.func (.func 83) #[] #[], .func (.func 87) #[] #[], .func (.func 89) #[] #[], .func (.func 90) #[] #[], .func (.func 93) #[] #[], .func (.func 94) #[] #[], .func (.func 95) #[] #[], .func (.func 97) #[] #[], .func (.func 98) #[] #[], .func (.func 99) #[] #[], .func (.func 101) #[] #[], .func (.func 102) #[] #[]]) (.int .i64 1)).run Tryz.prog w = .ok (.agg #[.func (.func 90) #[] #[], .func (.func 93) #[] #[], .func (.func 94) #[] #[]]) w := by kernel_rfl
theorem idx2 (w : World) : (Instr.index 118 (.agg #[.func (.func 83) #[] #[], .func (.func 87) #[] #[], .func (.func 89) #[] #[], .func (.func 90) #[] #[], .func (.func 93) #[] #[], .func (.func 94) #[] #[], .func (.func 95) #[] #[], .func (.func 97) #[] #[], .func (.func 98) #[] #[], .func (.func 99) #[] #[], .func (.func 101) #[] #[], .func (.func 102) #[] #[]]) (.int .i64 2)).run Tryz.prog w = .ok (.agg #[.func (.func 95) #[] #[], .func (.func 97) #[] #[], .func (.func 98) #[] #[]]) w := by kernel_rfl
theorem idx3 (w : World) : (Instr.index 118 (.agg #[.func (.func 83) #[] #[], .func (.func 87) #[] #[], .func (.func 89) #[] #[], .func (.func 90) #[] #[], .func (.func 93) #[] #[], .func (.func 94) #[] #[], .func (.func 95) #[] #[], .func (.func 97) #[] #[], .func (.func 98) #[] #[], .func (.func 99) #[] #[], .func (.func 101) #[] #[], .func (.func 102) #[] #[]]) (.int .i64 3)).run Tryz.prog w = .ok (.agg #[.func (.func 99) #[] #[], .func (.func 101) #[] #[], .func (.func 102) #[] #[]]) w := by kernel_rfl
def szA (l : List Nat) (k : Nat) : Array Value := #[.int .i64 (if 0 < k then (l.getD 0 0 : Nat) else (0 : Nat)), .int .i64 (if 1 < k then (l.getD 1 0 : Nat) else (0 : Nat)), .int .i64 (if 2 < k then (l.getD 2 0 : Nat) else (0 : Nat)), .int .i64 (if 3 < k then (l.getD 3 0 : Nat) else (0 : Nat))]
theorem sizesP_any (a : Option Addr) (d : Nat) (c : List Nat) (w : World) (hr : Rd w a (u32s c)) (hu : U32 c) (hn : c.length ≤ 65536) (hab : ∀ b, blk a = some b → b < w.heap.size) :
    Calls Tryz.prog 120 #[.slice a c.length d] w fun e w' => e = .returned (fourI (szs c)) ∧ Mod (fun _ => False) w w' := by
  have HS1 := Lib.hid (fun W (m : Mod (fun _ => False) w W) => size1_any a d c W (hr.mod m (fun _ _ => id)) hu (by omega))
  have HS2 := Lib.hid (fun W (m : Mod (fun _ => False) w W) => size2_any a d c W (hr.mod m (fun _ _ => id)) hu (by omega))
  have HS3 := Lib.hid (fun W (m : Mod (fun _ => False) w W) => size3_any a d c W (hr.mod m (fun _ _ => id)) hu hn (fun b hb => Nat.lt_of_lt_of_le (hab b hb) m.size))
  have HS4 := Lib.hid (fun W (m : Mod (fun _ => False) w W) => size4_any a d c W (hr.mod m (fun _ _ => id)) hu (by omega))
  have HSZ : Hid (fourI (szs c) = .agg #[.int .i64 ((layP c).length : Nat), .int .i64 ((layD c).length : Nat), .int .i64 ((layR c).length : Nat), .int .i64 ((layK c).length : Nat)]) := Lib.hid rfl
  clear hr hu hab
  generalize (layP c).length = n1 at *
  generalize (layD c).length = n2 at *
  generalize (layR c).length = n3 at *
  generalize (layK c).length = n4 at *
  go_enter Tryz.func120, Tryz.ntmps120
  go_wp2_with fail
  have m0 : Mod (fun _ => False) w ((w.alloc (.cells #[.int .i64 0, .int .i64 0, .int .i64 0, .int .i64 0] 129)).alloc (.cells #[.int .i64 0, .int .i64 0, .int .i64 0, .int .i64 0] 129)) := ((Mod.refl _ w).alloc _).alloc _
  have b0 : ((w.alloc (.cells #[.int .i64 0, .int .i64 0, .int .i64 0, .int .i64 0] 129)).alloc (.cells #[.int .i64 0, .int .i64 0, .int .i64 0, .int .i64 0] 129)).heap[w.heap.size]? = some (.cells #[.int .i64 0, .int .i64 0, .int .i64 0, .int .i64 0] 129 (0, 0)) :=
    ((Mod.refl (fun _ => False) _).alloc _).at (heap_alloc_new w _) id
  have b1 : ((w.alloc (.cells #[.int .i64 0, .int .i64 0, .int .i64 0, .int .i64 0] 129)).alloc (.cells #[.int .i64 0, .int .i64 0, .int .i64 0, .int .i64 0] 129)).heap[w.heap.size + 1]? = some (.cells #[.int .i64 0, .int .i64 0, .int .i64 0, .int .i64 0] 129 (0, 0)) := by
    have := heap_alloc_new (w.alloc (.cells #[.int .i64 0, .int .i64 0, .int .i64 0, .int .i64 0] 129)) (.cells #[.int .i64 0, .int .i64 0, .int .i64 0, .int .i64 0] 129)
    rwa [World.size_alloc] at this
  generalize (w.alloc (.cells #[.int .i64 0, .int .i64 0, .int .i64 0, .int .i64 0] 129)).alloc (.cells #[.int .i64 0, .int .i64 0, .int .i64 0, .int .i64 0] 129) = w2 at *
  refine (ways_any _).mono ?_
  rintro e w3 ⟨rfl, hm⟩
  have HM3 := Lib.hid (m0.trans hm); have HB0 := Lib.hid (hm.at b0 id); have HB1 := Lib.hid (hm.at b1 id)
  clear hm m0 b0 b1
  go_wp2_with fail
  obtain ⟨B1, hB1⟩ : ∃ B, B = w.heap.size + 1 := ⟨_, rfl⟩
  rw [← hB1] at HB1 ⊢
  have HBB := Lib.hid hB1
  clear hB1
  go_loopw [4, 5, 7] (fun _ _ iv wr => ∃ i : Nat, iv = .int .i64 i ∧ i ≤ 4 ∧ Hid (wr.heap[B1]? = some (.cells (szA [n1, n2, n3, n4] i) 129 (0, 0))) ∧ Hid (Mod (fun b => b = B1) w3 wr)) (fun _ _ iv _ => 4 - (intOf iv).toNat)
  case atStart => exact ⟨0, rfl, by omega, HB1, Lib.hid (Mod.refl _ _)⟩
  case round =>
    clear HB1
    obtain ⟨i, rfl, hi, hH, hM⟩ := hrel
    by_cases hlt : i < 4
    · have hcase : i = 0 ∨ i = 1 ∨ i = 2 ∨ i = 3 := by omega
      rcases hcase with h0 | h1 | h2 | h3
      · subst h0
        have hidx := idx0 wr
        try rw [show ((0 : Nat) : Int) = 0 from rfl]
        have hmw : Mod (fun _ => False) w (wr.alloc (.cells #[.func (.func 83) #[] #[], .func (.func 87) #[] #[], .func (.func 89) #[] #[]] 117)) := (HM3.out.step hM.out (fun b hb e => by have := HBB.out; omega)).alloc _
        have hb1 := ((Mod.refl (fun _ => False) wr).alloc (.cells #[.func (.func 83) #[] #[], .func (.func 87) #[] #[], .func (.func 89) #[] #[]] 117)).at hH.out id
        go_wp2_with fail
        refine (HS1.out _ hmw).mono ?_
        rintro e w4 ⟨rfl, hm4⟩
        have hb4 := hm4.at hb1 id
        have x4 := cell_at (j := 0) hb4 rfl
        have f4 := frozen_at (j := 0) hb4
        have HB4 := Lib.hid hb4
        have HM4 : Hid (Mod (fun b => b = B1) w3 w4) := Lib.hid ((hM.out.alloc _).step hm4 (fun _ _ e => e.elim))
        clear hb1 hmw hm4 hb4
        go_wp2_with fail
        have hset := heap_setCell_at (j := 0) (.int .i64 (n1 : Nat)) HB4.out
        have HSET : Hid ((w4.setCell ⟨B1, 0, none⟩ (.int .i64 (n1 : Nat))).heap[B1]? = some (.cells (szA [n1, n2, n3, n4] 1) 129 (0, 0))) := Lib.hid hset
        have HMS : Hid (Mod (fun b => b = B1) w3 (w4.setCell ⟨B1, 0, none⟩ (.int .i64 (n1 : Nat)))) := Lib.hid (HM4.out.setCell (p := ⟨B1, 0, none⟩) (fun _ => rfl) _)
        go_roundw
        case rel => exact ⟨1, rfl, by omega, HSET, HMS⟩
        case measure => simp [intOf]
      · subst h1
        have hidx := idx1 wr
        try rw [show ((1 : Nat) : Int) = 1 from rfl]
        have hmw : Mod (fun _ => False) w (wr.alloc (.cells #[.func (.func 90) #[] #[], .func (.func 93) #[] #[], .func (.func 94) #[] #[]] 117)) := (HM3.out.step hM.out (fun b hb e => by have := HBB.out; omega)).alloc _
        have hb1 := ((Mod.refl (fun _ => False) wr).alloc (.cells #[.func (.func 90) #[] #[], .func (.func 93) #[] #[], .func (.func 94) #[] #[]] 117)).at hH.out id
        go_wp2_with fail
        refine (HS2.out _ hmw).mono ?_
        rintro e w4 ⟨rfl, hm4⟩
        have hb4 := hm4.at hb1 id
        have x4 := cell_at (j := 1) hb4 rfl
        have f4 := frozen_at (j := 1) hb4
        have HB4 := Lib.hid hb4
        have HM4 : Hid (Mod (fun b => b = B1) w3 w4) := Lib.hid ((hM.out.alloc _).step hm4 (fun _ _ e => e.elim))
        clear hb1 hmw hm4 hb4
        go_wp2_with fail
        have hset := heap_setCell_at (j := 1) (.int .i64 (n2 : Nat)) HB4.out
        have HSET : Hid ((w4.setCell ⟨B1, 1, none⟩ (.int .i64 (n2 : Nat))).heap[B1]? = some (.cells (szA [n1, n2, n3, n4] 2) 129 (0, 0))) := Lib.hid hset
        have HMS : Hid (Mod (fun b => b = B1) w3 (w4.setCell ⟨B1, 1, none⟩ (.int .i64 (n2 : Nat)))) := Lib.hid (HM4.out.setCell (p := ⟨B1, 1, none⟩) (fun _ => rfl) _)
        go_roundw
        case rel => exact ⟨2, rfl, by omega, HSET, HMS⟩
        case measure => simp [intOf]
      · subst h2
        have hidx := idx2 wr
        try rw [show ((2 : Nat) : Int) = 2 from rfl]
        have hmw : Mod (fun _ => False) w (wr.alloc (.cells #[.func (.func 95) #[] #[], .func (.func 97) #[] #[], .func (.func 98) #[] #[]] 117)) := (HM3.out.step hM.out (fun b hb e => by have := HBB.out; omega)).alloc _
        have hb1 := ((Mod.refl (fun _ => False) wr).alloc (.cells #[.func (.func 95) #[] #[], .func (.func 97) #[] #[], .func (.func 98) #[] #[]] 117)).at hH.out id
        go_wp2_with fail
        refine (HS3.out _ hmw).mono ?_
        rintro e w4 ⟨rfl, hm4⟩
        have hb4 := hm4.at hb1 id
        have x4 := cell_at (j := 2) hb4 rfl
        have f4 := frozen_at (j := 2) hb4
        have HB4 := Lib.hid hb4
        have HM4 : Hid (Mod (fun b => b = B1) w3 w4) := Lib.hid ((hM.out.alloc _).step hm4 (fun _ _ e => e.elim))
        clear hb1 hmw hm4 hb4
        go_wp2_with fail
        have hset := heap_setCell_at (j := 2) (.int .i64 (n3 : Nat)) HB4.out
        have HSET : Hid ((w4.setCell ⟨B1, 2, none⟩ (.int .i64 (n3 : Nat))).heap[B1]? = some (.cells (szA [n1, n2, n3, n4] 3) 129 (0, 0))) := Lib.hid hset
        have HMS : Hid (Mod (fun b => b = B1) w3 (w4.setCell ⟨B1, 2, none⟩ (.int .i64 (n3 : Nat)))) := Lib.hid (HM4.out.setCell (p := ⟨B1, 2, none⟩) (fun _ => rfl) _)
        go_roundw
        case rel => exact ⟨3, rfl, by omega, HSET, HMS⟩
        case measure => simp [intOf]
      · subst h3
        have hidx := idx3 wr
        try rw [show ((3 : Nat) : Int) = 3 from rfl]
        have hmw : Mod (fun _ => False) w (wr.alloc (.cells #[.func (.func 99) #[] #[], .func (.func 101) #[] #[], .func (.func 102) #[] #[]] 117)) := (HM3.out.step hM.out (fun b hb e => by have := HBB.out; omega)).alloc _
        have hb1 := ((Mod.refl (fun _ => False) wr).alloc (.cells #[.func (.func 99) #[] #[], .func (.func 101) #[] #[], .func (.func 102) #[] #[]] 117)).at hH.out id
        go_wp2_with fail
        refine (HS4.out _ hmw).mono ?_
        rintro e w4 ⟨rfl, hw4⟩
        have hm4 : Mod (fun _ => False) (wr.alloc (.cells #[.func (.func 99) #[] #[], .func (.func 101) #[] #[], .func (.func 102) #[] #[]] 117)) w4 := by rw [← hw4]; exact Mod.refl _ _
        have hb4 := hm4.at hb1 id
        have x4 := cell_at (j := 3) hb4 rfl
        have f4 := frozen_at (j := 3) hb4
        have HB4 := Lib.hid hb4
        have HM4 : Hid (Mod (fun b => b = B1) w3 w4) := Lib.hid ((hM.out.alloc _).step hm4 (fun _ _ e => e.elim))
        clear hb1 hmw hm4 hb4
        go_wp2_with fail
        have hset := heap_setCell_at (j := 3) (.int .i64 (n4 : Nat)) HB4.out
        have HSET : Hid ((w4.setCell ⟨B1, 3, none⟩ (.int .i64 (n4 : Nat))).heap[B1]? = some (.cells (szA [n1, n2, n3, n4] 4) 129 (0, 0))) := Lib.hid hset
        have HMS : Hid (Mod (fun b => b = B1) w3 (w4.setCell ⟨B1, 3, none⟩ (.int .i64 (n4 : Nat)))) := Lib.hid (HM4.out.setCell (p := ⟨B1, 3, none⟩) (fun _ => rfl) _)
        go_roundw
        case rel => exact ⟨4, rfl, by omega, HSET, HMS⟩
        case measure => simp [intOf]
    · have h4 : i = 4 := by omega
      subst h4
      rw [show ((4 : Nat) : Int) = 4 from rfl]
      have hcs : w3.heap[w.heap.size]? = some (.cells #[.int .i64 0, .int .i64 0, .int .i64 0, .int .i64 0] 129 (0, 0)) := HB0.out
      have hcw := hM.out.at hcs (fun e => by have := HBB.out; omega)
      have x0 : wr.cell? ⟨B1, 0, none⟩ = some (.int .i64 (n1 : Nat)) := cell_at (j := 0) hH.out rfl
      have x1 : wr.cell? ⟨B1, 1, none⟩ = some (.int .i64 (n2 : Nat)) := cell_at (j := 1) hH.out rfl
      have x2 : wr.cell? ⟨B1, 2, none⟩ = some (.int .i64 (n3 : Nat)) := cell_at (j := 2) hH.out rfl
      have x3 : wr.cell? ⟨B1, 3, none⟩ = some (.int .i64 (n4 : Nat)) := cell_at (j := 3) hH.out rfl
      have y0 := cell_at (j := 0) hcw rfl; have y1 := cell_at (j := 1) hcw rfl; have y2 := cell_at (j := 2) hcw rfl; have y3 := cell_at (j := 3) hcw rfl
      have f0 := frozen_at (j := 0) hcw; have f1 := frozen_at (j := 1) hcw; have f2 := frozen_at (j := 2) hcw; have f3 := frozen_at (j := 3) hcw
      have HCW := Lib.hid hcw
      clear hcs hcw
      generalize hB0 : w.heap.size = B0 at *
      have HBX := Lib.hid hB0
      clear hB0
      go_wp2_with fail
      have q1 := heap_setCell_at (j := 0) (.int .i64 (n1 : Nat)) HCW.out
      have q2 := heap_setCell_at (j := 1) (.int .i64 (n2 : Nat)) q1
      have q3 := heap_setCell_at (j := 2) (.int .i64 (n3 : Nat)) q2
      have q4 := heap_setCell_at (j := 3) (.int .i64 (n4 : Nat)) q3
      have HLT : Hid (¬ B0 < w.heap.size) := Lib.hid (by have := HBX.out; omega)
      have HM5 := Lib.hid (HM3.out.step hM.out (fun b hb e => by have h1 := HBB.out; have h2 := HBX.out; omega))
      have M4 : Hid (Mod (fun _ => False) w ((((wr.setCell ⟨B0, 0, none⟩ (.int .i64 (n1 : Nat))).setCell ⟨B0, 1, none⟩ (.int .i64 (n2 : Nat))).setCell ⟨B0, 2, none⟩ (.int .i64 (n3 : Nat))).setCell ⟨B0, 3, none⟩ (.int .i64 (n4 : Nat)))) :=
        Lib.hid ((((HM5.out.setCell (p := ⟨B0, 0, none⟩) (fun h => HLT.out h) _).setCell (p := ⟨B0, 1, none⟩) (fun h => HLT.out h) _).setCell (p := ⟨B0, 2, none⟩) (fun h => HLT.out h) _).setCell (p := ⟨B0, 3, none⟩) (fun h => HLT.out h) _)
      have p0 := cell_at (j := 0) q4 rfl; have p1 := cell_at (j := 1) q4 rfl; have p2 := cell_at (j := 2) q4 rfl; have p3 := cell_at (j := 3) q4 rfl
      generalize (((wr.setCell ⟨B0, 0, none⟩ (.int .i64 (n1 : Nat))).setCell ⟨B0, 1, none⟩ (.int .i64 (n2 : Nat))).setCell ⟨B0, 2, none⟩ (.int .i64 (n3 : Nat))).setCell ⟨B0, 3, none⟩ (.int .i64 (n4 : Nat)) = w5 at *
      refine bodyPost_ret (v := fourI (szs c)) ?_ rfl ⟨rfl, M4.out⟩
      rw [HSZ.out]
      simp [results, Tryz.f120, go_sem, p0, p1, p2, p3]
end Go.Proofs.YtelfakglaghfoaaGreat
