/-
  The document's guess: walked.
-/
import Derived.Test.YtjoiaejbahdjkaaGreatFgD
import Derived.Test.YtjoiaejbahdjkaaGreatFgI
import Derived.Test.YtjoiaejbahdjkaaGreatRefReader
import Derived.Deep.CutRange
import Derived.Lib.ConvBytes
namespace Go.Proofs.YtjoiaejbahdjkaaGreat
open Go Go.RowKit Go.Mine
set_option linter.unusedVariables false
set_option maxHeartbeats 8000000
set_option maxRecDepth 100000
theorem bytes_mod7 (w : World) (e : TypeId) (s : ByteArray) : Mod (fun _ => False) w (Lib.bytesWorld w e s) :=
 ⟨rfl, rfl, rfl, by rw [Lib.bytesWorld_size]; omega, fun k hk _ => Lib.bytesWorld_at_old w e s k hk⟩
theorem bytes_rd7 (w : World) (e : TypeId) (l : List UInt8) : Rd (Lib.bytesWorld w e ⟨l.toArray⟩) (some ⟨w.heap.size, 0, none⟩) (bts l) := by
 intro i u hi
 refine ⟨_, _, rfl, ?_⟩
 have hlt : i < l.length := by
  have := (List.getElem?_eq_some_iff.1 hi).1
  simpa using this
 rw [Nat.zero_add, Lib.bytesWorld_cell w e _ i (by simpa [ByteArray.size] using hlt)]
 simp only [bts, List.getElem?_map] at hi
 rw [← hi]
 simp [List.getD, hlt]
theorem conv7 (w : World) (l : List UInt8) : (convert 9 23 (.string ⟨l.toArray⟩)).run Tryz.prog w = .ok (.slice (some ⟨w.heap.size, 0, none⟩) l.length (grownCap w l.length 0 5)) (Lib.bytesWorld w 5 ⟨l.toArray⟩) := by
 have := Lib.run_convert_string_bytes (P := Tryz.prog) w 9 23 5 ⟨l.toArray⟩ (u := .string) (by kernel_rfl) (by kernel_rfl) (by kernel_rfl)
 simpa [ByteArray.size] using this
theorem stNum_zero {m : List UInt8} {a f k a' : Nat} (h : stNum m a f = (k, a', 0)) : f = 0 := by
 by_cases hf : f = 0
 ·exact hf
 ·unfold stNum at h; rw [if_pos hf] at h; simp only [Prod.mk.injEq] at h; exact h.2.2
def GuP (m : List UInt8) (w : World) (e : Ending) (w' : World) : Prop :=
 ((∃ F ra rc, Parse m F ∧ Bounds F.ts.length F.cs ∧ e = .returned (.tuple #[relV F ra rc, .bool true]) ∧ RowsAt w.heap.size w w' F ra rc) ∨
   ((∀ F, Parse m F → ¬ Bounds F.ts.length F.cs) ∧ e = .returned (.tuple #[.agg #[.string ⟨#[]⟩, .int .i64 0, .slice none 0 0], .bool false]))) ∧ Mod (fun _ => False) w w'
theorem parse_det1 {m nm : List UInt8} {x0 f0 A x1 f1 n x2 f2 : Nat} {F : Fil} (h0 : stText 4096 m 0 0 = (nm, x0, f0)) (h1 : stNum m x0 f0 = (A, x1, f1)) (h2 : stNum m x1 f1 = (n, x2, f2)) (hF : Parse m F) : f0 = 0 ∧ f1 = 0 ∧ f2 = 0 ∧ F.A = A ∧ F.n = n := by
 obtain ⟨g1, g2, _, g3, _, _, _⟩ := hF
 rw [h0] at g1; simp only [Prod.mk.injEq] at g1; obtain ⟨_, e1, rfl⟩ := g1
 rw [← e1, h1] at g2; simp only [Prod.mk.injEq] at g2; obtain ⟨e2, e3, rfl⟩ := g2
 rw [← e3, h2] at g3; simp only [Prod.mk.injEq] at g3; obtain ⟨e4, _, rfl⟩ := g3
 exact ⟨rfl, rfl, rfl, e2.symm, e4.symm⟩
theorem rfOf {w w' : World} {p : Nat} {a : Option Addr} {c : Nat} {m : List UInt8} {at_ f : Nat} (hr : Rd w a (bts m)) (hlt : ∀ b, blk a = some b → b < w.heap.size) (md : Mod (fun _ => False) w w') (hp : w.heap.size ≤ p) (hb : w'.heap[p]? = some (.cells #[.slice a m.length c, .int .i64 at_, .int .i64 f] 158 (0, 0)))
 (hle : at_ ≤ m.length) (hlc : m.length ≤ c) (hlen : m.length < 2 ^ 40) : RfAt w' p a c m at_ f := ⟨fun e => by have := hlt p e; omega, hle, hlc, hlen, hb, hr.mod md fun _ _ => id⟩
theorem LL.stepD {F : Nat → Prop} {S : Nat → Prop} {w0 w w' : World} {e : TypeId} {oa : Option Addr} {oc : Nat} {hs : List Value} {xs : List (List Value)} (h : LL F w0 w e oa oc hs xs) (m : Mod S w w') (hF : ∀ b, F b → ¬ S b) (hO : ∀ b, blk oa = some b → ¬ S b) (h0 : ∀ b, b < w0.heap.size → ¬ S b) : LL F w0 w' e oa oc hs xs :=
 ⟨h.len, h.own.mod m hO, fun j hj => by
  obtain ⟨x, c, h1, h2, h3⟩ := h.row j hj
  exact ⟨x, c, h1, h2.mod m fun b hb => hF b (h3 b hb).1, fun b hb => ⟨(h3 b hb).1, Nat.lt_of_lt_of_le (h3 b hb).2.1 m.size, (h3 b hb).2.2.1, (h3 b hb).2.2.2.mod m (hF b (h3 b hb).1)⟩⟩, h.fr, h.md.step m fun b hb e => h0 b hb e⟩
theorem LL.weak {F G : Nat → Prop} {w0 w : World} {e : TypeId} {oa : Option Addr} {oc : Nat} {hs : List Value} {xs : List (List Value)} (h : LL F w0 w e oa oc hs xs) (hF : ∀ b, F b → G b) : LL G w0 w e oa oc hs xs :=
 ⟨h.len, h.own, fun j hj => by
  obtain ⟨x, c, h1, h2, h3⟩ := h.row j hj
  exact ⟨x, c, h1, h2, fun b hb => ⟨hF b (h3 b hb).1, (h3 b hb).2⟩⟩, h.fr, h.md⟩
theorem RS.djq {w0 w : World} {pre : List It} {qs : List (Sl × List Nat)} (h : RS w0 w (itsG pre qs)) {i j : Nat} (hij : i < j) (hj : j < pre.length) : ∀ b, (pre[i]'(by omega)).F b → ¬ (pre[j]).F b := by
 have h1 := (List.pairwise_append.1 h.fam.dj).1
 exact List.pairwise_iff_getElem.1 h1 i j (by omega) hj hij
theorem RS.djl {w0 w : World} {pre : List It} {qs : List (Sl × List Nat)} (h : RS w0 w (itsG pre qs)) {i : Nat} (hi : i < pre.length) : ∀ q ∈ qs, ∀ b, (pre[i]).F b → ¬ (rdI q.1.a (u32s q.2)).F b := fun q hq =>
 (List.pairwise_append.1 h.fam.dj).2.2 _ (List.getElem_mem hi) _ (List.mem_map.2 ⟨q, hq, rfl⟩)
theorem guess_any (bb bo : Nat) (c : Nat) (m : List UInt8) (w : World) (hr : Rd w (some ⟨bb, bo, none⟩) (bts m)) (hc : m.length < c) (hl : m.length ≤ 16777216) (hlt : bb < w.heap.size) :
 Calls Tryz.prog 96 #[.slice (some ⟨bb, bo, none⟩) m.length c] w (GuP m w) := by
 have HLT : Hid (∀ b, blk (some ⟨bb, bo, none⟩) = some b → b < w.heap.size) := Hi (fun b hb => by have : bb = b := by simpa [blk] using hb
                                                                                                  omega)
 have HR := Hi hr
 clear hr hlt
 go_enter Tryz.func96, Tryz.ntmps96
 go_wp2_with fail
 have HS1 : Hid (RS w ((w.alloc (.cells #[.string ⟨#[]⟩, .int .i64 0, .slice none 0 0] 86)).alloc (.cells #[.slice (some ⟨bb, bo, none⟩) m.length c, .int .i64 0, .int .i64 0] 158)) [boxI w.heap.size #[.string ⟨#[]⟩, .int .i64 0, .slice none 0 0] 86, boxI (w.heap.size + 1) #[.slice (some ⟨bb, bo, none⟩) m.length c, .int .i64 0, .int .i64 0] 158]) := Hi (by
  have h0 : RS w w [] := ⟨Fam.nil (Nat.le_refl _), Mod.refl _ _⟩
  have h1 := h0.push (i' := boxI w.heap.size #[.string ⟨#[]⟩, .int .i64 0, .slice none 0 0] 86) ((Mod.refl _ w).alloc (.cells #[.string ⟨#[]⟩, .int .i64 0, .slice none 0 0] 86)) (heap_alloc_new w _) (fun b hb => Nat.le_of_eq (Eq.symm hb))
  have e1 : (w.alloc (.cells #[.string ⟨#[]⟩, .int .i64 0, .slice none 0 0] 86)).heap.size = w.heap.size + 1 := by simp
  exact h1.push (i' := boxI (w.heap.size + 1) #[.slice (some ⟨bb, bo, none⟩) m.length c, .int .i64 0, .int .i64 0] 158) ((Mod.refl _ _).alloc (.cells #[.slice (some ⟨bb, bo, none⟩) m.length c, .int .i64 0, .int .i64 0] 158)) (by have h := heap_alloc_new (w.alloc (.cells #[.string ⟨#[]⟩, .int .i64 0, .slice none 0 0] 86)) (.cells #[.slice (some ⟨bb, bo, none⟩) m.length c, .int .i64 0, .int .i64 0] 158); rw [e1] at h; exact h) (fun b hb => Nat.le_of_eq (by rw [e1]; exact Eq.symm hb)))
 obtain ⟨B, hB⟩ : ∃ B, B = w.heap.size := ⟨_, rfl⟩
 rw [← hB] at HS1 ⊢
 have HB := Hi hB
 clear hB
 obtain ⟨p, hp⟩ : ∃ p, p = B + 1 := ⟨_, rfl⟩
 rw [← hp] at HS1 ⊢
 have HPB : Hid (w.heap.size ≤ p) := Hi (by have := HB.out; omega)
 clear hp
 generalize (w.alloc (.cells #[.string ⟨#[]⟩, .int .i64 0, .slice none 0 0] 86)).alloc (.cells #[.slice (some ⟨bb, bo, none⟩) m.length c, .int .i64 0, .int .i64 0] 158) = w1 at *
 have HT := Hi (rfText_any p (some ⟨bb, bo, none⟩) c 4096 m 0 0 w1 (rfOf HR.out HLT.out HS1.out.md HPB.out (HS1.out.get (k := 1) (by simp)) (by omega) (by omega) (by omega)) (by omega))
 obtain ⟨st, hst⟩ : ∃ st, st = stText 4096 m 0 0 := ⟨_, rfl⟩
 rw [← hst] at HT
 obtain ⟨nm, x0, f0⟩ := st
 simp only at HT
 have HST0 := Hi hst.symm
 clear hst
 refine HT.out.mono ?_
 rintro e w2 ⟨rfl, hr2, hm2⟩
 have HS2 : Hid (RS w w2 [boxI B #[.string ⟨#[]⟩, .int .i64 0, .slice none 0 0] 86, boxI p #[.slice (some ⟨bb, bo, none⟩) m.length c, .int .i64 x0, .int .i64 f0] 158]) := Hi (HS1.out.set (k := 1) (by simp) hm2 hr2.heap (fun b hb => .inl hb))
 have hx0 := hr2.le
 clear HT HS1 hr2 hm2
 go_wp2_with fail
 have HS3 : Hid (RS w (w2.alloc (.cells #[.string ⟨nm.toArray⟩, .int .i64 0, .slice none 0 0] 86)) [boxI B #[.string ⟨#[]⟩, .int .i64 0, .slice none 0 0] 86, boxI p #[.slice (some ⟨bb, bo, none⟩) m.length c, .int .i64 x0, .int .i64 f0] 158, boxI w2.heap.size #[.string ⟨nm.toArray⟩, .int .i64 0, .slice none 0 0] 86]) := Hi (HS2.out.push ((Mod.refl _ w2).alloc _) (heap_alloc_new w2 _) (fun b hb => Nat.le_of_eq (Eq.symm hb)))
 obtain ⟨D, hD⟩ : ∃ D, D = w2.heap.size := ⟨_, rfl⟩
 rw [← hD] at HS3 ⊢
 have HDB : Hid (B < D) := Hi (by rw [hD]; exact (Array.getElem?_eq_some_iff.1 (show w2.heap[B]? = some _ from HS2.out.get (k := 0) (by simp))).1)
 clear hD HS2
 generalize w2.alloc (.cells #[.string ⟨nm.toArray⟩, .int .i64 0, .slice none 0 0] 86) = w3 at *
 have HN := Hi (rfNum_any p (some ⟨bb, bo, none⟩) c m x0 f0 w3 (rfOf HR.out HLT.out HS3.out.md HPB.out (HS3.out.get (k := 1) (by simp)) hx0 (by omega) (by omega)))
 obtain ⟨st, hst⟩ : ∃ st, st = stNum m x0 f0 := ⟨_, rfl⟩
 rw [← hst] at HN
 obtain ⟨A, x1, f1⟩ := st
 simp only at HN
 have HST1 := Hi hst.symm
 clear hst
 refine HN.out.mono ?_
 rintro e w4 ⟨rfl, hr4, hm4⟩
 have hx1 := hr4.le
 have HS4 : Hid (RS w w4 [boxI B #[.string ⟨#[]⟩, .int .i64 0, .slice none 0 0] 86, boxI p #[.slice (some ⟨bb, bo, none⟩) m.length c, .int .i64 x1, .int .i64 f1] 158, boxI D #[.string ⟨nm.toArray⟩, .int .i64 0, .slice none 0 0] 86]) := Hi (HS3.out.set (k := 1) (by simp) hm4 hr4.heap (fun b hb => .inl hb))
 clear HN HS3 hr4 hm4 hx0
 have HN := Hi (rfNum_any p (some ⟨bb, bo, none⟩) c m x1 f1 w4 (rfOf HR.out HLT.out HS4.out.md HPB.out (HS4.out.get (k := 1) (by simp)) hx1 (by omega) (by omega)))
 obtain ⟨st, hst⟩ : ∃ st, st = stNum m x1 f1 := ⟨_, rfl⟩
 rw [← hst] at HN
 obtain ⟨n, x2, f2⟩ := st
 simp only at HN
 have HST2 := Hi hst.symm
 clear hst
 go_wp2_with fail
 refine HN.out.mono ?_
 rintro e w5 ⟨rfl, hr5, hm5⟩
 have hx2 := hr5.le
 have HS5 : Hid (RS w w5 [boxI B #[.string ⟨#[]⟩, .int .i64 0, .slice none 0 0] 86, boxI p #[.slice (some ⟨bb, bo, none⟩) m.length c, .int .i64 x2, .int .i64 f2] 158, boxI D #[.string ⟨nm.toArray⟩, .int .i64 0, .slice none 0 0] 86]) := Hi (HS4.out.set (k := 1) (by simp) hm5 hr5.heap (fun b hb => .inl hb))
 clear HN HS4 hr5 hm5 hx1
 have p2 : w5.cell? ⟨p, 2, none⟩ = some (.int .i64 f2) := cell_at (HS5.out.get (k := 1) (by simp)) rfl
 have hbr : w5.heap[B]? = some (.cells #[.string ⟨#[]⟩, .int .i64 0, .slice none 0 0] 86 (0, 0)) := HS5.out.get (k := 0) (by simp)
 have z0 := cell_at (j := 0) hbr rfl; have y0 := frozen_at (j := 0) hbr
 have z1 := cell_at (j := 1) hbr rfl; have y1 := frozen_at (j := 1) hbr
 have z2 := cell_at (j := 2) hbr rfl; have y2 := frozen_at (j := 2) hbr
 by_cases hf2 : f2 = 0
 rotate_left
 ·have hq : ((f2 : Int) == 0) = false := by simp; omega
  have HF2 := Hi hf2
  clear hf2
  go_wp2_with fail
  have hm := ((((Mod.refl (fun b => b = B) w5)).setCell (p := ⟨B, 0, none⟩) (fun _ => rfl) (.string ⟨#[]⟩)).setCell (p := ⟨B, 1, none⟩) (fun _ => rfl) (.int .i64 0)).setCell (p := ⟨B, 2, none⟩) (fun _ => rfl) (.slice none 0 0)
  have hz : ((((w5).setCell ⟨B, 0, none⟩ (.string ⟨#[]⟩)).setCell ⟨B, 1, none⟩ (.int .i64 0)).setCell ⟨B, 2, none⟩ (.slice none 0 0)).heap[B]? = some (.cells #[.string ⟨#[]⟩, .int .i64 0, .slice none 0 0] 86 (0, 0)) := (heap_setCell_at (j := 2) (.slice none 0 0) (heap_setCell_at (j := 1) (.int .i64 0) (heap_setCell_at (j := 0) (.string ⟨#[]⟩) hbr)))
  generalize (((w5).setCell ⟨B, 0, none⟩ (.string ⟨#[]⟩)).setCell ⟨B, 1, none⟩ (.int .i64 0)).setCell ⟨B, 2, none⟩ (.slice none 0 0) = wz at *
  have hmz : Mod (fun _ => False) w wz := HS5.out.md.step hm fun b hb e => by have h1 := HB.out; omega
  clear z0 y0 z1 y1 z2 y2
  have q0 := cell_at (j := 0) hz rfl; have q1 := cell_at (j := 1) hz rfl; have q2 := cell_at (j := 2) hz rfl
  have hlast : GuP m w (.returned (.tuple #[.agg #[.string ⟨#[]⟩, .int .i64 0, .slice none 0 0], .bool false])) wz := ⟨.inr ⟨fun F hF hG => by have h := parse_det1 HST0.out HST1.out HST2.out hF; exact HF2.out h.2.2.1, rfl⟩, hmz⟩
  refine bodyPost_ret (v := .tuple #[.agg #[.string ⟨#[]⟩, .int .i64 0, .slice none 0 0], .bool false]) ?_ rfl hlast
  clear hlast
  simp [results, Tryz.results96, go_sem, q0, q1, q2]
 subst hf2
 by_cases hA : A ≤ 64
 rotate_left
 ·have hd : decide (64 < (A : Int)) = true := by simp; omega
  have HA := Hi hA
  clear hA
  go_wp2_with fail
  have hm := ((((Mod.refl (fun b => b = B) w5)).setCell (p := ⟨B, 0, none⟩) (fun _ => rfl) (.string ⟨#[]⟩)).setCell (p := ⟨B, 1, none⟩) (fun _ => rfl) (.int .i64 0)).setCell (p := ⟨B, 2, none⟩) (fun _ => rfl) (.slice none 0 0)
  have hz : ((((w5).setCell ⟨B, 0, none⟩ (.string ⟨#[]⟩)).setCell ⟨B, 1, none⟩ (.int .i64 0)).setCell ⟨B, 2, none⟩ (.slice none 0 0)).heap[B]? = some (.cells #[.string ⟨#[]⟩, .int .i64 0, .slice none 0 0] 86 (0, 0)) := (heap_setCell_at (j := 2) (.slice none 0 0) (heap_setCell_at (j := 1) (.int .i64 0) (heap_setCell_at (j := 0) (.string ⟨#[]⟩) hbr)))
  generalize (((w5).setCell ⟨B, 0, none⟩ (.string ⟨#[]⟩)).setCell ⟨B, 1, none⟩ (.int .i64 0)).setCell ⟨B, 2, none⟩ (.slice none 0 0) = wz at *
  have hmz : Mod (fun _ => False) w wz := HS5.out.md.step hm fun b hb e => by have h1 := HB.out; omega
  clear z0 y0 z1 y1 z2 y2
  have q0 := cell_at (j := 0) hz rfl; have q1 := cell_at (j := 1) hz rfl; have q2 := cell_at (j := 2) hz rfl
  have hlast : GuP m w (.returned (.tuple #[.agg #[.string ⟨#[]⟩, .int .i64 0, .slice none 0 0], .bool false])) wz := ⟨.inr ⟨fun F hF hG => by have h := parse_det1 HST0.out HST1.out HST2.out hF; exact HA.out (by rw [← h.2.2.2.1]; exact hF.arl), rfl⟩, hmz⟩
  refine bodyPost_ret (v := .tuple #[.agg #[.string ⟨#[]⟩, .int .i64 0, .slice none 0 0], .bool false]) ?_ rfl hlast
  clear hlast
  simp [results, Tryz.results96, go_sem, q0, q1, q2]
 by_cases hn : n ≤ 65536
 rotate_left
 ·have hd : decide (65536 < (n : Int)) = true := by simp; omega
  have hd2 : decide (64 < (A : Int)) = false := by simp; omega
  have HNN := Hi hn
  clear hn
  go_wp2_with fail
  have hm := ((((Mod.refl (fun b => b = B) w5)).setCell (p := ⟨B, 0, none⟩) (fun _ => rfl) (.string ⟨#[]⟩)).setCell (p := ⟨B, 1, none⟩) (fun _ => rfl) (.int .i64 0)).setCell (p := ⟨B, 2, none⟩) (fun _ => rfl) (.slice none 0 0)
  have hz : ((((w5).setCell ⟨B, 0, none⟩ (.string ⟨#[]⟩)).setCell ⟨B, 1, none⟩ (.int .i64 0)).setCell ⟨B, 2, none⟩ (.slice none 0 0)).heap[B]? = some (.cells #[.string ⟨#[]⟩, .int .i64 0, .slice none 0 0] 86 (0, 0)) := (heap_setCell_at (j := 2) (.slice none 0 0) (heap_setCell_at (j := 1) (.int .i64 0) (heap_setCell_at (j := 0) (.string ⟨#[]⟩) hbr)))
  generalize (((w5).setCell ⟨B, 0, none⟩ (.string ⟨#[]⟩)).setCell ⟨B, 1, none⟩ (.int .i64 0)).setCell ⟨B, 2, none⟩ (.slice none 0 0) = wz at *
  have hmz : Mod (fun _ => False) w wz := HS5.out.md.step hm fun b hb e => by have h1 := HB.out; omega
  clear z0 y0 z1 y1 z2 y2
  have q0 := cell_at (j := 0) hz rfl; have q1 := cell_at (j := 1) hz rfl; have q2 := cell_at (j := 2) hz rfl
  have hlast : GuP m w (.returned (.tuple #[.agg #[.string ⟨#[]⟩, .int .i64 0, .slice none 0 0], .bool false])) wz := ⟨.inr ⟨fun F hF hG => by have h := parse_det1 HST0.out HST1.out HST2.out hF; exact HNN.out (by rw [← h.2.2.2.2]; exact hF.nrl), rfl⟩, hmz⟩
  refine bodyPost_ret (v := .tuple #[.agg #[.string ⟨#[]⟩, .int .i64 0, .slice none 0 0], .bool false]) ?_ rfl hlast
  clear hlast
  simp [results, Tryz.results96, go_sem, q0, q1, q2]
 obtain rfl : f1 = 0 := stNum_zero HST2.out
 obtain rfl : f0 = 0 := stNum_zero HST1.out
 have hd : decide (65536 < (n : Int)) = false := by simp; omega
 have hd2 : decide (64 < (A : Int)) = false := by simp; omega
 clear z0 y0 z1 y1 z2 y2 hbr
 have d1 : w5.cell? ⟨D, 1, none⟩ = some (.int .i64 0) := cell_at (HS5.out.get (k := 2) (by simp)) rfl
 have f1 : w5.frozen? ⟨D, 1, none⟩ = false := frozen_at (HS5.out.get (k := 2) (by simp))
 go_upto_region 8 with fail
 have HS6 : Hid (RS w (w5.setCell ⟨D, 1, none⟩ (.int .i64 A)) [boxI B #[.string ⟨#[]⟩, .int .i64 0, .slice none 0 0] 86, boxI p #[.slice (some ⟨bb, bo, none⟩) m.length c, .int .i64 x2, .int .i64 0] 158, boxI D #[.string ⟨nm.toArray⟩, .int .i64 A, .slice none 0 0] 86]) := Hi (HS5.out.cell (k := 2) (by simp) rfl 1 _)
 clear HS5 d1 f1 p2 hd hd2
 generalize w5.setCell ⟨D, 1, none⟩ (.int .i64 A) = w6 at *
 have p1 : w6.cell? ⟨p, 1, none⟩ = some (.int .i64 x2) := cell_at (HS6.out.get (k := 1) (by simp)) rfl
 have hcx : ¬ (c = x2) := by omega
 have hdl : (m.drop x2).length = m.length - x2 := by simp
 have hsub : Rd w6 (some ⟨bb, bo + x2, none⟩) (bts (m.drop x2)) := by
  have h1 := subA_rd (w := w6) (a := some ⟨bb, bo, none⟩) (xs := bts m) (HR.out.mod HS6.out.md fun _ _ => id) (c := c) (lo := x2) (k := 1) (fun h => by omega)
  have h2 : subA (some ⟨bb, bo, none⟩) c x2 1 = some ⟨bb, bo + x2, none⟩ := by unfold subA; rw [if_neg (by omega), Nat.mul_one, Option.map_some]; simp [Addr.add]
  rw [h2, Nat.mul_one] at h1
  rw [bts, List.map_drop]
  exact h1
 have HRD := Hi (refRead_any (some ⟨bb, bo + x2, none⟩) (c - x2) (m.drop x2) w6 hsub (by omega) (by omega) (fun b hb => Nat.lt_of_lt_of_le (HLT.out b (by simpa [blk] using hb)) HS6.out.md.size))
 rw [hdl] at HRD
 clear hdl hsub
 obtain ⟨st, hst⟩ : ∃ st, st = readL (m.drop x2) := ⟨_, rfl⟩
 rw [← hst] at HRD
 obtain ⟨ts, d, f3⟩ := st
 simp only at HRD
 have HST3 := Hi hst.symm
 clear hst
 go_wp2_with fail
 refine HRD.out.mono ?_
 rintro e w7 ⟨v, rfl, hres⟩
 clear HRD hcx p1
 obtain ⟨ta, tc, rfl, hta, htb⟩ := hres.val
 have HS7 := Hi (HS6.out.push (i' := rdI ta (sts ts)) hres.mod hta (fun b hb => htb b hb.2))
 clear HS6 hres hta htb
 by_cases hf3 : f3 = 0
 rotate_left
 ·have hq : ((f3 : Int) == 0) = false := by simp; omega
  have HF3 := Hi hf3
  clear hf3
  have hbr : w7.heap[B]? = some (.cells #[.string ⟨#[]⟩, .int .i64 0, .slice none 0 0] 86 (0, 0)) := HS7.out.get (k := 0) (by simp)
  have z0 := cell_at (j := 0) hbr rfl; have y0 := frozen_at (j := 0) hbr
  have z1 := cell_at (j := 1) hbr rfl; have y1 := frozen_at (j := 1) hbr
  have z2 := cell_at (j := 2) hbr rfl; have y2 := frozen_at (j := 2) hbr
  go_wp2_with fail
  have hm := ((((Mod.refl (fun b => b = B) w7)).setCell (p := ⟨B, 0, none⟩) (fun _ => rfl) (.string ⟨#[]⟩)).setCell (p := ⟨B, 1, none⟩) (fun _ => rfl) (.int .i64 0)).setCell (p := ⟨B, 2, none⟩) (fun _ => rfl) (.slice none 0 0)
  have hz : ((((w7).setCell ⟨B, 0, none⟩ (.string ⟨#[]⟩)).setCell ⟨B, 1, none⟩ (.int .i64 0)).setCell ⟨B, 2, none⟩ (.slice none 0 0)).heap[B]? = some (.cells #[.string ⟨#[]⟩, .int .i64 0, .slice none 0 0] 86 (0, 0)) := (heap_setCell_at (j := 2) (.slice none 0 0) (heap_setCell_at (j := 1) (.int .i64 0) (heap_setCell_at (j := 0) (.string ⟨#[]⟩) hbr)))
  generalize (((w7).setCell ⟨B, 0, none⟩ (.string ⟨#[]⟩)).setCell ⟨B, 1, none⟩ (.int .i64 0)).setCell ⟨B, 2, none⟩ (.slice none 0 0) = wz at *
  have hmz : Mod (fun _ => False) w wz := HS7.out.md.step hm fun b hb e => by have h1 := HB.out; omega
  clear z0 y0 z1 y1 z2 y2
  have q0 := cell_at (j := 0) hz rfl; have q1 := cell_at (j := 1) hz rfl; have q2 := cell_at (j := 2) hz rfl
  have hlast : GuP m w (.returned (.tuple #[.agg #[.string ⟨#[]⟩, .int .i64 0, .slice none 0 0], .bool false])) wz := ⟨.inr ⟨fun F hF hG => by have h := parse_det1 HST0.out HST1.out HST2.out hF; have h4 := hF.name; rw [HST0.out] at h4; simp only [Prod.mk.injEq, and_true] at h4; have h5 := hF.ar; rw [← h4.2, HST1.out] at h5; simp only [Prod.mk.injEq, and_true] at h5; have h6 := hF.nr; rw [← h5.2, HST2.out] at h6; simp only [Prod.mk.injEq, and_true] at h6; have h7 := hF.dict; rw [← h6.2, HST3.out] at h7; simp only [Prod.mk.injEq] at h7; exact HF3.out h7.2.2, rfl⟩, hmz⟩
  refine bodyPost_ret (v := .tuple #[.agg #[.string ⟨#[]⟩, .int .i64 0, .slice none 0 0], .bool false]) ?_ rfl hlast
  clear hlast
  simp [results, Tryz.results96, go_sem, q0, q1, q2]
 subst hf3
 have htl := (read_form HST3.out).2.2.2.2.2
 have hd1 : x2 + d ≤ m.length := by
  have h := (read_form HST3.out).2.2.1
  rw [List.length_drop] at h
  omega
 have p1 : w7.cell? ⟨p, 1, none⟩ = some (.int .i64 x2) := cell_at (HS7.out.get (k := 1) (by simp)) rfl
 have pf : w7.frozen? ⟨p, 1, none⟩ = false := frozen_at (HS7.out.get (k := 1) (by simp))
 go_wp2_with fail
 have HS8 : Hid (RS w (w7.setCell ⟨p, 1, none⟩ (.int .i64 ((x2 : Int) + d))) (itsG [boxI B #[.string ⟨#[]⟩, .int .i64 0, .slice none 0 0] 86, boxI p #[.slice (some ⟨bb, bo, none⟩) m.length c, .int .i64 (x2 + d), .int .i64 0] 158, boxI D #[.string ⟨nm.toArray⟩, .int .i64 A, .slice none 0 0] 86, rdI ta (sts ts), ownI 162 1 none 0 0 (([] : List (Sl × List Nat)).map fun q : Sl × List Nat => q.1.val)] ([] : List (Sl × List Nat)))) := Hi (by
  have h1 := HS7.out.cell (k := 1) (by simp) rfl 1 (.int .i64 ((x2 : Int) + d))
  exact h1.push (i' := ownI 162 1 none 0 0 []) (Mod.refl _ _) (Mine.Own.nil _ _ _) (fun b hb => by simp [ownI] at hb))
 clear HS7 p1 pf
 generalize w7.setCell ⟨p, 1, none⟩ (.int .i64 ((x2 : Int) + d)) = w8 at *
 obtain ⟨T, hT⟩ : ∃ T, T = ts.length := ⟨_, rfl⟩
 have HTT := Hi hT
 rw [← hT] at htl ⊢
 clear hT
 go_loopw [11, 12, 13, 14, 15] (fun cv kv _ _ _ wr => ∃ (k : Nat) (qs : List (Sl × List Nat)) (ps : List Nat) (ca : Option Addr) (cc at_ : Nat), cv = .slice ca k cc ∧ kv = .int .i64 k ∧ k ≤ A ∧ at_ ≤ m.length ∧ Hid (qs.length = k) ∧ Hid (colsGo m n A (x2 + d) [] [] = colsGo m n (A - k) at_ (qs.map (·.2)) ps) ∧ Hid (∀ q ∈ qs, q.1.n = q.2.length ∧ q.2.length = n ∧ U32 q.2) ∧
  Hid (RS w wr (itsG [boxI B #[.string ⟨#[]⟩, .int .i64 0, .slice none 0 0] 86, boxI p #[.slice (some ⟨bb, bo, none⟩) m.length c, .int .i64 at_, .int .i64 0] 158, boxI D #[.string ⟨nm.toArray⟩, .int .i64 A, .slice none 0 0] 86, rdI ta (sts ts), ownI 162 1 ca k cc (qs.map fun q : Sl × List Nat => q.1.val)] qs))) (fun _ kv _ _ _ _ => A - (intOf kv).toNat)
 case atStart => exact ⟨0, [], [], none, 0, x2 + d, rfl, rfl, Nat.zero_le _, hd1, rfl, rfl, Hi (by simp), HS8⟩
 case round =>
  clear HS8
  obtain ⟨k, qs, ps, ca, cc, at_, rfl, rfl, hk, hat, hQL, hCG, hQ, hS⟩ := hrel
  have d1 : wr.cell? ⟨D, 1, none⟩ = some (.int .i64 A) := cell_at (hS.out.getq (k := 2) (by simp)) rfl
  by_cases hlt : k < A
  ·obtain ⟨j, hj⟩ : ∃ j, A - k = j + 1 := ⟨A - k - 1, by omega⟩
   rw [hj] at hCG
   have HJ := Hi hj
   clear hj
   have HT := Hi (rfText_any p (some ⟨bb, bo, none⟩) c 16777216 m at_ 0 wr (rfOf HR.out HLT.out hS.out.md HPB.out (hS.out.getq (k := 1) (by simp)) hat (by omega) (by omega)) (by omega))
   rename World => w15
   obtain ⟨st, hst⟩ : ∃ st, st = stText 16777216 m at_ 0 := ⟨_, rfl⟩
   rw [← hst] at HT
   obtain ⟨pg, x, f⟩ := st
   simp only at HT
   have HSTN := Hi hst.symm
   clear hst
   have hpgl : pg.length ≤ 16777216 := by
    by_cases hf : f = 0
    ·subst hf; exact (text_form HSTN.out hat).2.2.2
    ·have h1 := stText_err (most := 16777216) (l := m) (at_ := at_) (by rw [HSTN.out]; exact hf)
     rw [HSTN.out] at h1
     have h2 : pg = [] := h1.1
     rw [h2]; simp
   go_wp2_with fail
   refine HT.out.mono ?_
   rintro e w16 ⟨rfl, hr16, hm16⟩
   have hx16 := hr16.le
   have HS16 : Hid (RS w w16 (itsG [boxI B #[.string ⟨#[]⟩, .int .i64 0, .slice none 0 0] 86, boxI p #[.slice (some ⟨bb, bo, none⟩) m.length c, .int .i64 x, .int .i64 f] 158, boxI D #[.string ⟨nm.toArray⟩, .int .i64 A, .slice none 0 0] 86, rdI ta (sts ts), ownI 162 1 ca k cc (qs.map fun q : Sl × List Nat => q.1.val)] qs)) := Hi (hS.out.setq (k := 1) (by simp) hm16 hr16.heap (fun b hb => .inl hb))
   clear HT hS hr16 hm16 d1
   have hcv := conv7 w16 pg
   have HS17 := Hi (HS16.out.mod0 (bytes_mod7 w16 5 ⟨pg.toArray⟩))
   have HDC := Hi (decR_any (some ⟨w16.heap.size, 0, none⟩) (grownCap w16 pg.length 0 5) n pg (Lib.bytesWorld w16 5 ⟨pg.toArray⟩) (bytes_rd7 w16 5 pg) (by omega) (grownCap_ge w16 pg.length 0 _) hn)
   rw [← dec_same n (by omega) pg] at HDC
   clear HS16
   generalize hW : Lib.bytesWorld w16 5 ⟨pg.toArray⟩ = w17 at *
   clear hW
   by_cases hf : f = 0
   rotate_left
   ·have HTE : Hid ((stText 16777216 m at_ 0).2.2 ≠ 0) := Hi (by rw [HSTN.out]; exact hf)
    have hq : ((f : Int) == 0) = false := by simp; omega
    clear hf
    have HDC2 : Hid (Calls Tryz.prog 111 #[.slice (some ⟨w16.heap.size, 0, none⟩) pg.length (grownCap w16 pg.length 0 5), .int .i64 n] w17 fun e w' => ∃ v k, e = .returned (.tuple #[v, .int .i64 k]) ∧ Mod (fun _ => False) w17 w') := Hi (HDC.out.mono fun e w' h => by
     obtain ⟨v, h1, h2, _⟩ := h
     exact ⟨v, _, h1, h2⟩)
    clear HDC
    go_wp2_with fail
    refine HDC2.out.mono ?_
    rintro e w18 ⟨v, kk, rfl, hm18⟩
    have HS18 := Hi (HS17.out.mod0 hm18)
    clear hm18 HS17 HDC2
    have p2 : w18.cell? ⟨p, 2, none⟩ = some (.int .i64 f) := cell_at (HS18.out.getq (k := 1) (by simp)) rfl
    have hbr : w18.heap[B]? = some (.cells #[.string ⟨#[]⟩, .int .i64 0, .slice none 0 0] 86 (0, 0)) := HS18.out.getq (k := 0) (by simp)
    have z0 := cell_at (j := 0) hbr rfl; have y0 := frozen_at (j := 0) hbr
    have z1 := cell_at (j := 1) hbr rfl; have y1 := frozen_at (j := 1) hbr
    have z2 := cell_at (j := 2) hbr rfl; have y2 := frozen_at (j := 2) hbr
    go_wp2_with fail
    have hm := ((((Mod.refl (fun b => b = B) w18)).setCell (p := ⟨B, 0, none⟩) (fun _ => rfl) (.string ⟨#[]⟩)).setCell (p := ⟨B, 1, none⟩) (fun _ => rfl) (.int .i64 0)).setCell (p := ⟨B, 2, none⟩) (fun _ => rfl) (.slice none 0 0)
    have hz : ((((w18).setCell ⟨B, 0, none⟩ (.string ⟨#[]⟩)).setCell ⟨B, 1, none⟩ (.int .i64 0)).setCell ⟨B, 2, none⟩ (.slice none 0 0)).heap[B]? = some (.cells #[.string ⟨#[]⟩, .int .i64 0, .slice none 0 0] 86 (0, 0)) := (heap_setCell_at (j := 2) (.slice none 0 0) (heap_setCell_at (j := 1) (.int .i64 0) (heap_setCell_at (j := 0) (.string ⟨#[]⟩) hbr)))
    generalize (((w18).setCell ⟨B, 0, none⟩ (.string ⟨#[]⟩)).setCell ⟨B, 1, none⟩ (.int .i64 0)).setCell ⟨B, 2, none⟩ (.slice none 0 0) = wz at *
    have hmz : Mod (fun _ => False) w wz := HS18.out.md.step hm fun b hb e => by have h1 := HB.out; omega
    clear z0 y0 z1 y1 z2 y2
    have q0 := cell_at (j := 0) hz rfl; have q1 := cell_at (j := 1) hz rfl; have q2 := cell_at (j := 2) hz rfl
    have hlast : GuP m w (.returned (.tuple #[.agg #[.string ⟨#[]⟩, .int .i64 0, .slice none 0 0], .bool false])) wz := ⟨.inr ⟨fun F hF hG => by have h := parse_det HST0.out HST1.out HST2.out HST3.out hF; have h2 := hF.cols; rw [h.2.2.1, h.2.2.2.2.1, h.2.2.2.2.2.1, h.2.2.2.2.2.2.2, hCG.out, colsGo_err HTE.out] at h2; exact absurd h2 (by simp), rfl⟩, hmz⟩
    refine bodyPost_ret (v := .tuple #[.agg #[.string ⟨#[]⟩, .int .i64 0, .slice none 0 0], .bool false]) ?_ rfl hlast
    clear hlast
    simp [results, Tryz.results96, go_sem, q0, q1, q2]
   subst hf
   cases hdec : decP n pg with
   | none =>
     have HDN := Hi hdec
     have HDC2 : Hid (Calls Tryz.prog 111 #[.slice (some ⟨w16.heap.size, 0, none⟩) pg.length (grownCap w16 pg.length 0 5), .int .i64 n] w17 fun e w' => ∃ v, e = .returned (.tuple #[v, .int .i64 50]) ∧ Mod (fun _ => False) w17 w') := Hi (HDC.out.mono fun e w' h => by
      obtain ⟨v, h1, h2, _⟩ := h
      rw [hdec] at h1
      exact ⟨v, h1, h2⟩)
     clear HDC hdec
     go_wp2_with fail
     refine HDC2.out.mono ?_
     rintro e w18 ⟨v, rfl, hm18⟩
     have HS18 := Hi (HS17.out.mod0 hm18)
     clear hm18 HS17 HDC2
     have p2 : w18.cell? ⟨p, 2, none⟩ = some (.int .i64 0) := cell_at (HS18.out.getq (k := 1) (by simp)) rfl
     have hbr : w18.heap[B]? = some (.cells #[.string ⟨#[]⟩, .int .i64 0, .slice none 0 0] 86 (0, 0)) := HS18.out.getq (k := 0) (by simp)
     have z0 := cell_at (j := 0) hbr rfl; have y0 := frozen_at (j := 0) hbr
     have z1 := cell_at (j := 1) hbr rfl; have y1 := frozen_at (j := 1) hbr
     have z2 := cell_at (j := 2) hbr rfl; have y2 := frozen_at (j := 2) hbr
     go_wp2_with fail
     have hm := ((((Mod.refl (fun b => b = B) w18)).setCell (p := ⟨B, 0, none⟩) (fun _ => rfl) (.string ⟨#[]⟩)).setCell (p := ⟨B, 1, none⟩) (fun _ => rfl) (.int .i64 0)).setCell (p := ⟨B, 2, none⟩) (fun _ => rfl) (.slice none 0 0)
     have hz : ((((w18).setCell ⟨B, 0, none⟩ (.string ⟨#[]⟩)).setCell ⟨B, 1, none⟩ (.int .i64 0)).setCell ⟨B, 2, none⟩ (.slice none 0 0)).heap[B]? = some (.cells #[.string ⟨#[]⟩, .int .i64 0, .slice none 0 0] 86 (0, 0)) := (heap_setCell_at (j := 2) (.slice none 0 0) (heap_setCell_at (j := 1) (.int .i64 0) (heap_setCell_at (j := 0) (.string ⟨#[]⟩) hbr)))
     generalize (((w18).setCell ⟨B, 0, none⟩ (.string ⟨#[]⟩)).setCell ⟨B, 1, none⟩ (.int .i64 0)).setCell ⟨B, 2, none⟩ (.slice none 0 0) = wz at *
     have hmz : Mod (fun _ => False) w wz := HS18.out.md.step hm fun b hb e => by have h1 := HB.out; omega
     clear z0 y0 z1 y1 z2 y2
     have q0 := cell_at (j := 0) hz rfl; have q1 := cell_at (j := 1) hz rfl; have q2 := cell_at (j := 2) hz rfl
     have hlast : GuP m w (.returned (.tuple #[.agg #[.string ⟨#[]⟩, .int .i64 0, .slice none 0 0], .bool false])) wz := ⟨.inr ⟨fun F hF hG => by have h := parse_det HST0.out HST1.out HST2.out HST3.out hF; have h2 := hF.cols; rw [h.2.2.1, h.2.2.2.2.1, h.2.2.2.2.2.1, h.2.2.2.2.2.2.2, hCG.out, colsGo_dec HSTN.out HDN.out] at h2; exact absurd h2 (by simp), rfl⟩, hmz⟩
     refine bodyPost_ret (v := .tuple #[.agg #[.string ⟨#[]⟩, .int .i64 0, .slice none 0 0], .bool false]) ?_ rfl hlast
     clear hlast
     simp [results, Tryz.results96, go_sem, q0, q1, q2]
   | some cl =>
     obtain ⟨hcu, hcn, _⟩ := decP_spec hdec
     have HDN := Hi hdec
     have HDC2 : Hid (Calls Tryz.prog 111 #[.slice (some ⟨w16.heap.size, 0, none⟩) pg.length (grownCap w16 pg.length 0 5), .int .i64 n] w17 fun e w' => ∃ a' c', e = .returned (.tuple #[.slice a' n c', .int .i64 0]) ∧ Mod (fun _ => False) w17 w' ∧ Rd w' a' (u32s cl) ∧ ∀ b, blk a' = some b → w17.heap.size ≤ b) := Hi (HDC.out.mono fun e w' h => by
      obtain ⟨v, h1, h2, _, h3⟩ := h
      obtain ⟨a', c', rfl, h4⟩ := h3 cl hdec
      rw [hdec, hcn] at h1
      exact ⟨a', c', h1, h2, h4.own.rd, h4.fr⟩)
     have HCU := Hi hcu
     have HCN := Hi hcn
     clear hdec HDC hcu hcn
     go_wp2_with fail
     refine HDC2.out.mono ?_
     rintro e w18 ⟨la, lc, rfl, hm18, hlr, hlb⟩
     have HS18 := Hi (HS17.out.pushq (s := ⟨la, n, lc⟩) (c := cl) hm18 hlr hlb)
     clear hm18 hlr hlb HDC2 HS17
     have p2 : w18.cell? ⟨p, 2, none⟩ = some (.int .i64 0) := cell_at (HS18.out.getq (k := 1) (by simp)) rfl
     have HOW : Hid (Mine.Own w18 162 1 ca k cc (qs.map fun q : Sl × List Nat => q.1.val)) := Hi (HS18.out.getq (k := 4) (by simp))
     go_wp2_with (at_builtin; refine wpL_appendN (us := [.slice la n lc]) rfl (.tmp 95) (.tmp 97) 161 rfl tiLLU rfl HOW.out rfl rfl rfl (by show (k + 1) * 24 ≤ _; omega) (by show k + 1 ≤ _; unfold maxLen; omega) ?_; intro a5 c5 w20 hO5 hG5 _
                  have HS20 : Hid (RS w w20 (itsG [boxI B #[.string ⟨#[]⟩, .int .i64 0, .slice none 0 0] 86, boxI p #[.slice (some ⟨bb, bo, none⟩) m.length c, .int .i64 x, .int .i64 0] 158, boxI D #[.string ⟨nm.toArray⟩, .int .i64 A, .slice none 0 0] 86, rdI ta (sts ts), ownI 162 1 a5 (k + 1) c5 ((qs ++ [(Sl.mk la n lc, cl)]).map fun q : Sl × List Nat => q.1.val)] (qs ++ [(Sl.mk la n lc, cl)]))) := Hi (HS18.out.setq (k := 4) (i' := ownI 162 1 a5 (k + 1) c5 ((qs ++ [(Sl.mk la n lc, cl)]).map fun q : Sl × List Nat => q.1.val)) (by simp) hG5.mod (by rw [List.map_append]; exact hO5) (fun b hb => by
                   have hb2 : blk a5 = some b := hb
                   rcases hG5.pos with e | ⟨b3, e, hb3⟩
                   ·rw [e] at hb2; exact .inl hb2
                   ·rw [e] at hb2; cases hb2; exact .inr hb3))
                  clear hO5 hG5 HS18 HOW)
     go_roundw
     case rel =>
      refine ⟨k + 1, qs ++ [(Sl.mk la n lc, cl)], ps ++ [pg.length], a5, c5, x, rfl, by go_num, hlt, hx16, Hi (by rw [List.length_append, hQL.out]; rfl), Hi ?_, Hi (fun q hq => ?_), HS20⟩
      ·rw [hCG.out, colsGo_on HSTN.out HDN.out, show A - (k + 1) = j by have := HJ.out; omega]
       simp
      ·rcases List.mem_append.1 hq with h | h
       ·exact hQ.out q h
       ·rw [List.mem_singleton] at h
        rw [h]
        exact ⟨HCN.out.symm, HCN.out, HCU.out⟩
     case measure => simp [intOf]; omega
  ·obtain rfl : A = k := by omega
   have HPA : Hid (Parse m ⟨nm, x0, A, x1, n, x2, ts, d, qs.map (·.2), ps, at_⟩) := Hi ⟨HST0.out, HST1.out, hA, HST2.out, hn, HST3.out, by rw [hCG.out, Nat.sub_self]; rfl⟩
   clear HST0 HST1 HST2 HST3 hCG
   have hown : Mine.Own wr 162 1 ca A cc (qs.map fun q : Sl × List Nat => q.1.val) := hS.out.getq (k := 4) (by simp)
   have HLW := Hi (fun W (mW : Mod (fun b => b = D) wr W) => heads_llr (hown.rd.mod mW fun b hb e => hS.out.djq (i := 2) (j := 4) (by omega) (by simp) D rfl (show blk ca = some D by rw [hb]; exact congrArg some e)) (fun q hq => ⟨(hQ.out q hq).1, by
    by_cases hx : u32s q.2 = []
    ·rw [hx]; exact Rd.nil _ _
    ·exact (hS.out.ls q hq).mod mW fun b hb e => hS.out.djl (i := 2) (by simp) q hq D rfl ⟨hx, by rw [hb]; exact congrArg some e⟩⟩))
   have HTW : Hid (∀ W, Mod (fun b => b = D) wr W → Rd W ta (sts ts)) := Hi (fun W mW => by
    by_cases hx : sts ts = []
    ·rw [hx]; exact Rd.nil _ _
    ·exact (show Rd wr ta (sts ts) from hS.out.getq (k := 3) (by simp)).mod mW fun b hb e => hS.out.djq (i := 2) (j := 3) (by omega) (by simp) D rfl ⟨hx, by rw [hb]; exact congrArg some e⟩)
   have HCL : Hid ((qs.map (·.2)).length = A) := Hi (by rw [List.length_map, hQL.out])
   have HCN : Hid (∀ c ∈ qs.map (·.2), c.length = n) := Hi (fun c hc => by obtain ⟨q, hq, rfl⟩ := List.mem_map.1 hc; exact (hQ.out q hq).2.1)
   have HCU : Hid (∀ c ∈ qs.map (·.2), U32 c) := Hi (fun c hc => by obtain ⟨q, hq, rfl⟩ := List.mem_map.1 hc; exact (hQ.out q hq).2.2)
   have HDW : Hid (wr.heap[D]? = some (.cells #[.string ⟨nm.toArray⟩, .int .i64 A, .slice none 0 0] 86 (0, 0))) := Hi (hS.out.getq (k := 2) (by simp))
   have HBW : Hid (wr.heap[B]? = some (.cells #[.string ⟨#[]⟩, .int .i64 0, .slice none 0 0] 86 (0, 0))) := Hi (hS.out.getq (k := 0) (by simp))
   have HDL : Hid (w.heap.size ≤ D) := Hi (hS.out.loq (k := 2) (by simp) D rfl)
   have HDS : Hid (D < wr.heap.size) := Hi (Array.getElem?_eq_some_iff.1 HDW.out).1
   have HMB := Hi hS.out.md
   clear hown hQL hQ hS
   generalize qs.map (·.2) = cs at *
   rename World => wB
   go_wp2_with fail
   clear d1
   go_loopw [16, 17, 18] (fun iv _ _ wr => ∃ (i : Nat) (oa : Option Addr) (oc : Nat) (hs : List Value), iv = .int .i64 i ∧ i ≤ n ∧ Hid (∀ c ∈ cs, ∀ j, j < i → c.getD j 0 < T) ∧ Hid (wr.heap[D]? = some (.cells #[.string ⟨nm.toArray⟩, .int .i64 A, .slice oa i oc] 86 (0, 0))) ∧ Hid (Mod (fun b => b = D) wB wr) ∧ Hid (∀ b, blk oa = some b → wB.heap.size ≤ b) ∧
    Hid (LL (fun b => wB.heap.size ≤ b) w wr 81 oa oc hs ((rowsF ts cs i).map sts))) (fun iv _ _ _ => n - (intOf iv).toNat)
   case atStart => exact ⟨0, none, 0, [], rfl, Nat.zero_le _, Hi (fun c _ j hj => by omega), HDW, Hi (Mod.refl _ _), Hi (fun b hb => by simp at hb), Hi ((LL.nil _ _ w).mod0 HMB.out)⟩
   case round =>
    obtain ⟨i, oa, oc, hs, rfl, hi, hX, hDc, hMD, hOF, hL⟩ := hrel
    by_cases hli : i < n
    ·have d1 : wr.cell? ⟨D, 1, none⟩ = some (.int .i64 A) := cell_at hDc.out rfl
     rename World => wq
     go_wp2_with fail
     clear d1
     go_loopw [17, 18] (fun rv kv wr => ∃ (k : Nat) (ra : Option Addr) (rc : Nat), rv = .slice ra k rc ∧ kv = .int .i64 k ∧ k ≤ A ∧ Hid (∀ j (h : j < cs.length), j < k → (cs[j]).getD i 0 < T) ∧ Hid (Mine.Own wr 9 1 ra k rc (sts ((rowF ts cs i).take k))) ∧ Hid (∀ b, blk ra = some b → wq.heap.size ≤ b) ∧ Hid (Mod (fun _ => False) wq wr)) (fun _ kv _ => A - (intOf kv).toNat)
     case atStart => exact ⟨0, none, 0, rfl, rfl, Nat.zero_le _, Hi (fun j h hj => by omega), Hi (by rw [List.take_zero]; exact Mine.Own.nil _ _ _), Hi (fun b hb => by simp at hb), Hi (Mod.refl _ _)⟩
     case round =>
      obtain ⟨k, ra, rc, rfl, rfl, hk2, hY, hO6, hB6, hM6⟩ := hrel
      have hm2 : Mod (fun b => b = D) wB wr := hMD.out.step hM6.out fun _ _ e => e.elim
      have hdw := hM6.out.at hDc.out id
      have d1 : wr.cell? ⟨D, 1, none⟩ = some (.int .i64 A) := cell_at hdw rfl
      by_cases hlk : k < A
      ·have hkc : k < cs.length := by rw [HCL.out]; exact hlk
       obtain ⟨b, o, x, xc, rfl, x0, hx⟩ := cols_get (HLW.out wr hm2) HCN.out hkc
       have hLc : cs[k].length = n := HCN.out _ (List.getElem_mem hkc)
       have hui : i < (cs[k]).length := by rw [hLc]; exact hli
       obtain ⟨b', o', rfl, y0⟩ := u32_cell hx hui
       have hp32 := HCU.out _ (List.getElem_mem hkc) _ (List.getElem_mem hui)
       have hgd : (cs[k]).getD i 0 = cs[k][i] := getD_at hui
       have hmem : cs[k][i] ∈ cs.flatten := List.mem_flatten.2 ⟨_, List.getElem_mem hkc, List.getElem_mem hui⟩
       by_cases hpT : cs[k][i] < T
       ·have hpT2 : cs[k][i] < ts.length := by rw [← HTT.out]; exact hpT
        obtain ⟨b2, o2, rfl, z0⟩ := str_cell (HTW.out wr hm2) hpT2
        have htk := rowF_take (ts := ts) (i := i) hkc
        rw [hgd, List.getD_eq_getElem?_getD, List.getElem?_eq_getElem hpT2, Option.getD_some] at htk
        have HTK := Hi htk
        have HY2 : Hid (∀ j (h : j < cs.length), j < k + 1 → (cs[j]).getD i 0 < T) := Hi (fun j h hj => by
         by_cases hjk : j = k
         ·subst hjk; rw [hgd]; exact hpT
         ·exact hY.out j h (by omega))
        clear htk hx hm2 hdw hmem hgd
        generalize ts[cs[k][i]] = s at *
        clear hpT2
        generalize cs[k][i] = y at *
        clear hui hLc
        have hgeq : decide ((T : Int) ≤ (y : Int)) = false := by simp; omega
        go_wp2_with (at_builtin; refine wpL_appendN (us := [.string s]) rfl (.tmp 123) (.tmp 134) 81 rfl ti22r rfl hO6.out rfl rfl rfl (by show (k + 1) * 16 ≤ _; omega) (by show k + 1 ≤ _; unfold maxLen; omega) ?_; intro a4 c4 w4 hO4 hG4 _
                     have HO4 := Hi hO4; have HG4 := Hi hG4; clear hO4 hG4)
        go_roundw
        case rel =>
         refine ⟨k + 1, a4, c4, rfl, by go_num, hlk, HY2, Hi (by rw [HTK.out]; exact HO4.out), Hi (fun b hb => ?_), Hi (hM6.out.step HG4.out.mod (fun b hb e => by have h1 := hB6.out b e; omega))⟩
         rcases HG4.out.pos with e | ⟨b3, e, hb3⟩
         ·rw [e] at hb; exact hB6.out b hb
         ·rw [e] at hb; cases hb
          have h1 := hM6.out.size
          omega
        case measure => simp [intOf]; omega
       ·have HNB : Hid (¬ Bounds T cs) := Hi (fun h => hpT (h _ hmem))
        have hbw := hm2.at HBW.out (by have h1 := HDB.out; omega)
        clear hm2 hdw hmem hgd hx
        generalize cs[k][i] = y at *
        clear hui hLc
        have hgeq : decide ((T : Int) ≤ (y : Int)) = true := by simp; omega
        have hmw := Hi (hL.out.md.step hM6.out fun _ _ e => e)
        have hbr : wr.heap[B]? = some (.cells #[.string ⟨#[]⟩, .int .i64 0, .slice none 0 0] 86 (0, 0)) := hbw
        have z0 := cell_at (j := 0) hbr rfl; have y0 := frozen_at (j := 0) hbr
        have z1 := cell_at (j := 1) hbr rfl; have y1 := frozen_at (j := 1) hbr
        have z2 := cell_at (j := 2) hbr rfl; have y2 := frozen_at (j := 2) hbr
        go_wp2_with fail
        have hm := ((((Mod.refl (fun b => b = B) wr)).setCell (p := ⟨B, 0, none⟩) (fun _ => rfl) (.string ⟨#[]⟩)).setCell (p := ⟨B, 1, none⟩) (fun _ => rfl) (.int .i64 0)).setCell (p := ⟨B, 2, none⟩) (fun _ => rfl) (.slice none 0 0)
        have hz : ((((wr).setCell ⟨B, 0, none⟩ (.string ⟨#[]⟩)).setCell ⟨B, 1, none⟩ (.int .i64 0)).setCell ⟨B, 2, none⟩ (.slice none 0 0)).heap[B]? = some (.cells #[.string ⟨#[]⟩, .int .i64 0, .slice none 0 0] 86 (0, 0)) := (heap_setCell_at (j := 2) (.slice none 0 0) (heap_setCell_at (j := 1) (.int .i64 0) (heap_setCell_at (j := 0) (.string ⟨#[]⟩) hbr)))
        generalize (((wr).setCell ⟨B, 0, none⟩ (.string ⟨#[]⟩)).setCell ⟨B, 1, none⟩ (.int .i64 0)).setCell ⟨B, 2, none⟩ (.slice none 0 0) = wz at *
        have hmz : Mod (fun _ => False) w wz := hmw.out.step hm fun b hb e => by have h1 := HB.out; omega
        clear z0 y0 z1 y1 z2 y2
        have q0 := cell_at (j := 0) hz rfl; have q1 := cell_at (j := 1) hz rfl; have q2 := cell_at (j := 2) hz rfl
        have hlast : GuP m w (.returned (.tuple #[.agg #[.string ⟨#[]⟩, .int .i64 0, .slice none 0 0], .bool false])) wz := ⟨.inr ⟨fun F hF hG => by have h := hF.same HPA.out; rw [h] at hG; exact HNB.out (by rw [HTT.out]; exact hG), rfl⟩, hmz⟩
        refine bodyPost_ret (v := .tuple #[.agg #[.string ⟨#[]⟩, .int .i64 0, .slice none 0 0], .bool false]) ?_ rfl hlast
        clear hlast
        simp [results, Tryz.results96, go_sem, q0, q1, q2]
      ·obtain rfl : A = k := by omega
       have hrow := hO6.out
       rw [List.take_of_length_le (by rw [rowF_len, HCL.out]; exact Nat.le_refl _)] at hrow
       have HROW := Hi hrow
       have HLL := Hi (hL.out.mod0 hM6.out)
       have hown : Mine.Own wr 81 1 oa i oc hs := by have h1 := HLL.out.own; rwa [rowsF_len] at h1
       have HB7 : Hid (∀ b, blk ra = some b → wB.heap.size ≤ b ∧ b < wr.heap.size ∧ blk oa ≠ some b ∧ Uf wr b) := Hi (fun b hb => by
        have h1 := hB6.out b hb
        have h3 := hMD.out.size
        exact ⟨by omega, HROW.out.lt b hb, fun e => by have h4 := hL.out.own.lt b e; omega, Own.uf HROW.out hb⟩)
       have d2 : wr.cell? ⟨D, 2, none⟩ = some (.slice oa i oc) := cell_at hdw rfl
       have HDN := Hi hdw
       have HM2 := Hi hm2
       clear hrow hO6 hdw hm2
       go_wp2_with (at_builtin; refine wpL_appendN (us := [.slice ra A rc]) rfl (.tmp 137) (.tmp 139) 84 rfl tiLLS rfl hown rfl rfl rfl (by show (i + 1) * 24 ≤ _; omega) (by show i + 1 ≤ _; unfold maxLen; omega) ?_; intro a5 c5 w5 hO5 hG5 _
                    have HLP : Hid (LL (fun b => wB.heap.size ≤ b) w w5 81 a5 c5 (hs ++ [.slice ra A rc]) ((rowsF ts cs (i + 1)).map sts)) := Hi (by
                     rw [rowsF_succ]
                     exact HLL.out.pushN (by simp [rowF_len, HCL.out]) HROW.out.rd HB7.out hG5 hO5 (by rw [rowsF_len]))
                    have hd5 := hG5.mod.at HDN.out (fun e => by have h1 := hOF.out D e; have h2 := HDS.out; omega)
                    have HF5 : Hid (∀ b, blk a5 = some b → wB.heap.size ≤ b) := Hi (fun b hb => by
                     rcases hG5.pos with e | ⟨b3, e, hb3⟩
                     ·rw [e] at hb; exact hOF.out b hb
                     ·rw [e] at hb; cases hb; have h1 := HM2.out.size; omega)
                    have HM5 : Hid (Mod (fun b => b = D) wB w5) := Hi (HM2.out.step hG5.mod fun b hb e => by have h1 := hOF.out b e; omega)
                    have HD5 := Hi hd5
                    have d2 : w5.cell? ⟨D, 2, none⟩ = some (.slice oa i oc) := cell_at hd5 rfl
                    have f2 : w5.frozen? ⟨D, 2, none⟩ = false := frozen_at hd5
                    clear hO5 hG5 hd5)
       go_roundw
       case rel =>
        refine ⟨i + 1, a5, c5, _, by go_num, hli, Hi (fun c hc j hj => ?_), Hi (heap_setCell_at (j := 2) (.slice a5 (i + 1) c5) HD5.out), Hi (HM5.out.setCell (p := ⟨D, 2, none⟩) (fun _ => rfl) _), HF5,
         Hi (HLP.out.stepD ((Mod.refl (fun b => b = D) w5).setCell (p := ⟨D, 2, none⟩) (fun _ => rfl) _) (fun b hb e => by have h1 := HDS.out; have h2 : b = D := e; omega) (fun b hb e => by have h1 := HF5.out b hb; have h2 := HDS.out; have h3 : b = D := e; omega) (fun b hb e => by have h1 := HDL.out; have h3 : b = D := e; omega))⟩
        by_cases hji : j = i
        ·subst hji
         obtain ⟨q, hq, rfl⟩ := List.mem_iff_getElem.1 hc
         exact hY.out q hq (by rw [← HCL.out]; exact hq)
        ·exact hX.out c hc j (by omega)
       case measure => simp [intOf]; omega
    ·obtain rfl : n = i := by omega
     have hbw := hMD.out.at HBW.out (by have h1 := HDB.out; omega)
     have d0 : wr.cell? ⟨D, 0, none⟩ = some (.string ⟨nm.toArray⟩) := cell_at hDc.out rfl
     have d1 : wr.cell? ⟨D, 1, none⟩ = some (.int .i64 A) := cell_at hDc.out rfl
     have d2 : wr.cell? ⟨D, 2, none⟩ = some (.slice oa n oc) := cell_at hDc.out rfl
     have hbr : wr.heap[B]? = some (.cells #[.string ⟨#[]⟩, .int .i64 0, .slice none 0 0] 86 (0, 0)) := hbw
     have z0 := cell_at (j := 0) hbr rfl; have y0 := frozen_at (j := 0) hbr
     have z1 := cell_at (j := 1) hbr rfl; have y1 := frozen_at (j := 1) hbr
     have z2 := cell_at (j := 2) hbr rfl; have y2 := frozen_at (j := 2) hbr
     go_wp2_with fail
     have hm := ((((Mod.refl (fun b => b = B) wr)).setCell (p := ⟨B, 0, none⟩) (fun _ => rfl) (.string ⟨nm.toArray⟩)).setCell (p := ⟨B, 1, none⟩) (fun _ => rfl) (.int .i64 A)).setCell (p := ⟨B, 2, none⟩) (fun _ => rfl) (.slice oa n oc)
     have hz : ((((wr).setCell ⟨B, 0, none⟩ (.string ⟨nm.toArray⟩)).setCell ⟨B, 1, none⟩ (.int .i64 A)).setCell ⟨B, 2, none⟩ (.slice oa n oc)).heap[B]? = some (.cells #[.string ⟨nm.toArray⟩, .int .i64 A, .slice oa n oc] 86 (0, 0)) := (heap_setCell_at (j := 2) (.slice oa n oc) (heap_setCell_at (j := 1) (.int .i64 A) (heap_setCell_at (j := 0) (.string ⟨nm.toArray⟩) hbr)))
     generalize (((wr).setCell ⟨B, 0, none⟩ (.string ⟨nm.toArray⟩)).setCell ⟨B, 1, none⟩ (.int .i64 A)).setCell ⟨B, 2, none⟩ (.slice oa n oc) = wz at *
     clear z0 y0 z1 y1 z2 y2
     have q0 := cell_at (j := 0) hz rfl; have q1 := cell_at (j := 1) hz rfl; have q2 := cell_at (j := 2) hz rfl
     have HBO : Hid (Bounds ts.length cs) := Hi (fun x hx => by
      obtain ⟨c, hc, hxc⟩ := List.mem_flatten.1 hx
      obtain ⟨j, hj, rfl⟩ := List.mem_iff_getElem.1 hxc
      have h1 := hX.out c hc j (by rw [← HCN.out c hc]; exact hj)
      rw [getD_at hj] at h1
      rw [← HTT.out]
      exact h1)
     have HLZ := (hL.out.weak (G := fun b => w.heap.size ≤ b ∧ b ≠ B) (fun b hb => by have h1 := HMB.out.size; have h2 := HDS.out; have h3 := HDB.out; omega)).stepD hm (fun b hb e => hb.2 e) (fun b hb e => by have h1 := hOF.out b hb; have h2 := HDS.out; have h3 := HDB.out; have h4 : b = B := e; omega) (fun b hb e => by have h1 := HB.out; have h4 : b = B := e; omega)
     have hlast : GuP m w (.returned (.tuple #[.agg #[.string ⟨nm.toArray⟩, .int .i64 A, .slice oa n oc], .bool true])) wz := ⟨.inl ⟨_, oa, oc, HPA.out, HBO.out, rfl, hs, HLZ.weak (fun b hb => hb.1)⟩, HLZ.md⟩
     refine bodyPost_ret (v := .tuple #[.agg #[.string ⟨nm.toArray⟩, .int .i64 A, .slice oa n oc], .bool true]) ?_ rfl hlast
     clear hlast
     simp [results, Tryz.results96, go_sem, q0, q1, q2]
end Go.Proofs.YtjoiaejbahdjkaaGreat
