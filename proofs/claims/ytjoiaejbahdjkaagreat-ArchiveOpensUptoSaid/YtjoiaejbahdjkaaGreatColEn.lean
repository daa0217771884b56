/-
  The program's page of a column: walked.
-/
import Derived.Test.YtjoiaejbahdjkaaGreatCqD
import Derived.Test.YtjoiaejbahdjkaaGreatCqB
namespace Go.Proofs.YtjoiaejbahdjkaaGreat
open Go Go.RowKit Go.Mine
set_option linter.unusedVariables false
set_option maxHeartbeats 8000000
set_option maxRecDepth 100000
theorem fl0 (w : World) : (Instr.field 205 (.agg #[.func (.func 168) #[] #[], .func (.func 172) #[] #[], .func (.func 173) #[] #[]]) 1).run Tryz.prog w = .ok (.func (.func 172) #[] #[]) w := by kernel_rfl
theorem fr0 (w : World) : (Instr.field 205 (.agg #[.func (.func 168) #[] #[], .func (.func 172) #[] #[], .func (.func 173) #[] #[]]) 2).run Tryz.prog w = .ok (.func (.func 173) #[] #[]) w := by kernel_rfl
theorem fl1 (w : World) : (Instr.field 205 (.agg #[.func (.func 174) #[] #[], .func (.func 177) #[] #[], .func (.func 178) #[] #[]]) 1).run Tryz.prog w = .ok (.func (.func 177) #[] #[]) w := by kernel_rfl
theorem fr1 (w : World) : (Instr.field 205 (.agg #[.func (.func 174) #[] #[], .func (.func 177) #[] #[], .func (.func 178) #[] #[]]) 2).run Tryz.prog w = .ok (.func (.func 178) #[] #[]) w := by kernel_rfl
theorem fl2 (w : World) : (Instr.field 205 (.agg #[.func (.func 179) #[] #[], .func (.func 181) #[] #[], .func (.func 182) #[] #[]]) 1).run Tryz.prog w = .ok (.func (.func 181) #[] #[]) w := by kernel_rfl
theorem fr2 (w : World) : (Instr.field 205 (.agg #[.func (.func 179) #[] #[], .func (.func 181) #[] #[], .func (.func 182) #[] #[]]) 2).run Tryz.prog w = .ok (.func (.func 182) #[] #[]) w := by kernel_rfl
theorem fl3 (w : World) : (Instr.field 205 (.agg #[.func (.func 183) #[] #[], .func (.func 185) #[] #[], .func (.func 186) #[] #[]]) 1).run Tryz.prog w = .ok (.func (.func 185) #[] #[]) w := by kernel_rfl
theorem fr3 (w : World) : (Instr.field 205 (.agg #[.func (.func 183) #[] #[], .func (.func 185) #[] #[], .func (.func 186) #[] #[]]) 2).run Tryz.prog w = .ok (.func (.func 186) #[] #[]) w := by kernel_rfl
theorem encP_any (a : Option Addr) (d : Nat) (c : List Nat) (w : World) (hr : Rd w a (u32s c)) (hu : U32 c) (hn : c.length ≤ 65536) (hab : ∀ b, blk a = some b → b < w.heap.size) :
 Calls Tryz.prog 151 #[.slice a c.length d] w fun e w' => ∃ a' c', e = .returned (.tuple #[.slice a' (encL c).length c', .int .i64 0]) ∧ BOwn w w' a' c' (encL c) := by
 have HWY := Hi (wayP_any a d c w hr hu hn hab)
 have hw4 := wayN_range c
 have HENC : Hid (encL c = UInt8.ofNat (wayN c) :: layW (wayN c) c) := Hi rfl
 have HLEN := Hi (layW_len hu hn (wayN c))
 have HR := Hi hr; have HU := Hi hu; have HAB := Hi hab
 clear hr hu hab
 have hcase : wayN c = 1 ∨ wayN c = 2 ∨ wayN c = 3 ∨ wayN c = 4 := by omega
 clear hw4
 rcases hcase with hv | hv | hv | hv
 ·rw [hv] at HWY HENC HLEN
  clear hv
  go_enter Tryz.func151, Tryz.ntmps151
  go_wp2_with fail
  refine HWY.out.mono ?_
  rintro e w1 ⟨rfl, hm⟩
  have HM := Hi hm
  clear hm HWY
  go_wp2_with fail
  refine (newWriter_any w1).mono ?_
  rintro e w2 ⟨rfl, hw2⟩
  have HW2 : Hid (WrS w w2 w1.heap.size []) := Hi ⟨none, ⟨(fun h => by cases h), 0, by rw [hw2]; exact heap_alloc_new w1 _, Mine.Own.nil _ _ _⟩, HM.out.size, (fun b hb => by cases hb), by rw [hw2]; exact HM.out.alloc _⟩
  clear hw2
  generalize w1.heap.size = p at *
  go_wp2_with fail
  have e1 : bts [UInt8.ofNat 1] = [.int .u8 1] := rfl
  have m1 : Mod (fun _ => False) w2 (w2.alloc (.cells #[.int .u8 1] 5)) := (Mod.refl _ w2).alloc _
  have HRW := Hi (rawS_any (HW2.out.mod0 m1) [UInt8.ofNat 1] (some ⟨w2.heap.size, 0, none⟩) 1 (by rw [e1]; exact Rd.news w2 [.int .u8 1] 5) (by simp) (by simp))
  clear e1 m1
  refine HRW.out.mono ?_
  rintro e w3 ⟨rfl, h3⟩
  have H3 := Hi h3
  clear h3 HRW
  go_wp2_with fail
  refine (ways_any w3).mono ?_
  rintro e w4 ⟨rfl, hm4⟩
  have H4 := Hi (H3.out.mod0 hm4)
  clear hm4
  have hidx := idx0 w4
  have hfl := fl0 w4
  go_wp2_with fail
  refine (lay1_any H4.out a d c HR.out HU.out hn (by simp) ).mono ?_
  rintro e w5 ⟨rfl, h5⟩
  obtain ⟨ra, h6, h7, h8, h9⟩ := h5
  have e2 : ([] ++ [UInt8.ofNat 1]) ++ layP c = encL c := by rw [HENC.out]; rfl
  rw [e2] at h6
  have hle : (layP c).length ≤ 2000000 := HLEN.out
  have hel : (encL c).length < 2 ^ 40 := by rw [← e2]; simp; omega
  have hne : encL c ≠ [] := by rw [HENC.out]; simp
  clear e2 hle
  have H6 := Hi h6; have H9 := Hi h9
  clear h6 h7 h8 h9
  go_wp2_with fail
  refine (bytes_any p ra _ w5 H6.out hel hne).mono ?_
  rintro e w6 ⟨g, c', rfl, hg, hO, hm6⟩
  have HO := Hi hO; have HG := Hi hg; have HM6 := Hi hm6
  clear hO hg hm6 hel hne
  go_wp2_with fail
  generalize encL c = l at *
  refine bodyPost_ret (v := .tuple #[.slice (some ⟨g, 0, none⟩) l.length c', .int .i64 0]) (by simp [results, Tryz.results151, go_sem]) rfl ?_
  exact ⟨some ⟨g, 0, none⟩, c', rfl, HO.out, fun b hb => by cases hb; exact Nat.le_trans H9.out.size HG.out, H9.out.trans HM6.out⟩
 ·rw [hv] at HWY HENC HLEN
  clear hv
  go_enter Tryz.func151, Tryz.ntmps151
  go_wp2_with fail
  refine HWY.out.mono ?_
  rintro e w1 ⟨rfl, hm⟩
  have HM := Hi hm
  clear hm HWY
  go_wp2_with fail
  refine (newWriter_any w1).mono ?_
  rintro e w2 ⟨rfl, hw2⟩
  have HW2 : Hid (WrS w w2 w1.heap.size []) := Hi ⟨none, ⟨(fun h => by cases h), 0, by rw [hw2]; exact heap_alloc_new w1 _, Mine.Own.nil _ _ _⟩, HM.out.size, (fun b hb => by cases hb), by rw [hw2]; exact HM.out.alloc _⟩
  clear hw2
  generalize w1.heap.size = p at *
  go_wp2_with fail
  have e1 : bts [UInt8.ofNat 2] = [.int .u8 2] := rfl
  have m1 : Mod (fun _ => False) w2 (w2.alloc (.cells #[.int .u8 2] 5)) := (Mod.refl _ w2).alloc _
  have HRW := Hi (rawS_any (HW2.out.mod0 m1) [UInt8.ofNat 2] (some ⟨w2.heap.size, 0, none⟩) 1 (by rw [e1]; exact Rd.news w2 [.int .u8 2] 5) (by simp) (by simp))
  clear e1 m1
  refine HRW.out.mono ?_
  rintro e w3 ⟨rfl, h3⟩
  have H3 := Hi h3
  clear h3 HRW
  go_wp2_with fail
  refine (ways_any w3).mono ?_
  rintro e w4 ⟨rfl, hm4⟩
  have H4 := Hi (H3.out.mod0 hm4)
  clear hm4
  have hidx := idx1 w4
  have hfl := fl1 w4
  go_wp2_with fail
  refine (lay2_any H4.out a d c HR.out HU.out hn (by simp) ).mono ?_
  rintro e w5 ⟨rfl, h5⟩
  obtain ⟨ra, h6, h7, h8, h9⟩ := h5
  have e2 : ([] ++ [UInt8.ofNat 2]) ++ layD c = encL c := by rw [HENC.out]; rfl
  rw [e2] at h6
  have hle : (layD c).length ≤ 2000000 := HLEN.out
  have hel : (encL c).length < 2 ^ 40 := by rw [← e2]; simp; omega
  have hne : encL c ≠ [] := by rw [HENC.out]; simp
  clear e2 hle
  have H6 := Hi h6; have H9 := Hi h9
  clear h6 h7 h8 h9
  go_wp2_with fail
  refine (bytes_any p ra _ w5 H6.out hel hne).mono ?_
  rintro e w6 ⟨g, c', rfl, hg, hO, hm6⟩
  have HO := Hi hO; have HG := Hi hg; have HM6 := Hi hm6
  clear hO hg hm6 hel hne
  go_wp2_with fail
  generalize encL c = l at *
  refine bodyPost_ret (v := .tuple #[.slice (some ⟨g, 0, none⟩) l.length c', .int .i64 0]) (by simp [results, Tryz.results151, go_sem]) rfl ?_
  exact ⟨some ⟨g, 0, none⟩, c', rfl, HO.out, fun b hb => by cases hb; exact Nat.le_trans H9.out.size HG.out, H9.out.trans HM6.out⟩
 ·rw [hv] at HWY HENC HLEN
  clear hv
  go_enter Tryz.func151, Tryz.ntmps151
  go_wp2_with fail
  refine HWY.out.mono ?_
  rintro e w1 ⟨rfl, hm⟩
  have HM := Hi hm
  clear hm HWY
  go_wp2_with fail
  refine (newWriter_any w1).mono ?_
  rintro e w2 ⟨rfl, hw2⟩
  have HW2 : Hid (WrS w w2 w1.heap.size []) := Hi ⟨none, ⟨(fun h => by cases h), 0, by rw [hw2]; exact heap_alloc_new w1 _, Mine.Own.nil _ _ _⟩, HM.out.size, (fun b hb => by cases hb), by rw [hw2]; exact HM.out.alloc _⟩
  clear hw2
  generalize w1.heap.size = p at *
  go_wp2_with fail
  have e1 : bts [UInt8.ofNat 3] = [.int .u8 3] := rfl
  have m1 : Mod (fun _ => False) w2 (w2.alloc (.cells #[.int .u8 3] 5)) := (Mod.refl _ w2).alloc _
  have HRW := Hi (rawS_any (HW2.out.mod0 m1) [UInt8.ofNat 3] (some ⟨w2.heap.size, 0, none⟩) 1 (by rw [e1]; exact Rd.news w2 [.int .u8 3] 5) (by simp) (by simp))
  clear e1 m1
  refine HRW.out.mono ?_
  rintro e w3 ⟨rfl, h3⟩
  have H3 := Hi h3
  clear h3 HRW
  go_wp2_with fail
  refine (ways_any w3).mono ?_
  rintro e w4 ⟨rfl, hm4⟩
  have H4 := Hi (H3.out.mod0 hm4)
  clear hm4
  have hidx := idx2 w4
  have hfl := fl2 w4
  go_wp2_with fail
  refine (lay3_any H4.out a d c HR.out HU.out hn (by simp) HAB.out).mono ?_
  rintro e w5 ⟨rfl, h5⟩
  obtain ⟨ra, h6, h7, h8, h9⟩ := h5
  have e2 : ([] ++ [UInt8.ofNat 3]) ++ layR c = encL c := by rw [HENC.out]; rfl
  rw [e2] at h6
  have hle : (layR c).length ≤ 2000000 := HLEN.out
  have hel : (encL c).length < 2 ^ 40 := by rw [← e2]; simp; omega
  have hne : encL c ≠ [] := by rw [HENC.out]; simp
  clear e2 hle
  have H6 := Hi h6; have H9 := Hi h9
  clear h6 h7 h8 h9
  go_wp2_with fail
  refine (bytes_any p ra _ w5 H6.out hel hne).mono ?_
  rintro e w6 ⟨g, c', rfl, hg, hO, hm6⟩
  have HO := Hi hO; have HG := Hi hg; have HM6 := Hi hm6
  clear hO hg hm6 hel hne
  go_wp2_with fail
  generalize encL c = l at *
  refine bodyPost_ret (v := .tuple #[.slice (some ⟨g, 0, none⟩) l.length c', .int .i64 0]) (by simp [results, Tryz.results151, go_sem]) rfl ?_
  exact ⟨some ⟨g, 0, none⟩, c', rfl, HO.out, fun b hb => by cases hb; exact Nat.le_trans H9.out.size HG.out, H9.out.trans HM6.out⟩
 ·rw [hv] at HWY HENC HLEN
  clear hv
  go_enter Tryz.func151, Tryz.ntmps151
  go_wp2_with fail
  refine HWY.out.mono ?_
  rintro e w1 ⟨rfl, hm⟩
  have HM := Hi hm
  clear hm HWY
  go_wp2_with fail
  refine (newWriter_any w1).mono ?_
  rintro e w2 ⟨rfl, hw2⟩
  have HW2 : Hid (WrS w w2 w1.heap.size []) := Hi ⟨none, ⟨(fun h => by cases h), 0, by rw [hw2]; exact heap_alloc_new w1 _, Mine.Own.nil _ _ _⟩, HM.out.size, (fun b hb => by cases hb), by rw [hw2]; exact HM.out.alloc _⟩
  clear hw2
  generalize w1.heap.size = p at *
  go_wp2_with fail
  have e1 : bts [UInt8.ofNat 4] = [.int .u8 4] := rfl
  have m1 : Mod (fun _ => False) w2 (w2.alloc (.cells #[.int .u8 4] 5)) := (Mod.refl _ w2).alloc _
  have HRW := Hi (rawS_any (HW2.out.mod0 m1) [UInt8.ofNat 4] (some ⟨w2.heap.size, 0, none⟩) 1 (by rw [e1]; exact Rd.news w2 [.int .u8 4] 5) (by simp) (by simp))
  clear e1 m1
  refine HRW.out.mono ?_
  rintro e w3 ⟨rfl, h3⟩
  have H3 := Hi h3
  clear h3 HRW
  go_wp2_with fail
  refine (ways_any w3).mono ?_
  rintro e w4 ⟨rfl, hm4⟩
  have H4 := Hi (H3.out.mod0 hm4)
  clear hm4
  have hidx := idx3 w4
  have hfl := fl3 w4
  go_wp2_with fail
  refine (lay4_any H4.out a d c HR.out HU.out hn (by simp) ).mono ?_
  rintro e w5 ⟨rfl, h5⟩
  obtain ⟨ra, h6, h7, h8, h9⟩ := h5
  have e2 : ([] ++ [UInt8.ofNat 4]) ++ layK c = encL c := by rw [HENC.out]; rfl
  rw [e2] at h6
  have hle : (layK c).length ≤ 2000000 := HLEN.out
  have hel : (encL c).length < 2 ^ 40 := by rw [← e2]; simp; omega
  have hne : encL c ≠ [] := by rw [HENC.out]; simp
  clear e2 hle
  have H6 := Hi h6; have H9 := Hi h9
  clear h6 h7 h8 h9
  go_wp2_with fail
  refine (bytes_any p ra _ w5 H6.out hel hne).mono ?_
  rintro e w6 ⟨g, c', rfl, hg, hO, hm6⟩
  have HO := Hi hO; have HG := Hi hg; have HM6 := Hi hm6
  clear hO hg hm6 hel hne
  go_wp2_with fail
  generalize encL c = l at *
  refine bodyPost_ret (v := .tuple #[.slice (some ⟨g, 0, none⟩) l.length c', .int .i64 0]) (by simp [results, Tryz.results151, go_sem]) rfl ?_
  exact ⟨some ⟨g, 0, none⟩, c', rfl, HO.out, fun b hb => by cases hb; exact Nat.le_trans H9.out.size HG.out, H9.out.trans HM6.out⟩
end Go.Proofs.YtjoiaejbahdjkaaGreat
