/-
  walk, walked: a range over a table that grows.
-/
import Derived.Test.YtcmgeiohcgngeaaSymT8
import Derived.Test.YtcmgeiohcgngeaaSymT7
import Derived.Test.YtcmgeiohcgngeaaSymT3
namespace Go.Proofs.Ytcmgeiohcgngeaa
open Go Go.RowKit Go.Mine Go.Maps Go.Shelf
set_option linter.unusedVariables false
set_option maxHeartbeats 8000000
set_option maxRecDepth 100000

/-- a table and the document's, side by side -/
def PrF (T M B : Nat) (a a2 : Option Addr) (b : Nat) : Prop := (b = T ∨ blk a = some b ∨ b = B) ∨ (b = M ∨ blk a2 = some b)
structure PrAt (w : World) (T M B : Nat) (a : Option Addr) (c : Nat) (a2 : Option Addr) (c2 : Nat) (l : List ByteArray) : Prop where
  tb : TbAt w T a c B l
  rb : RbAt w M a2 c2 l
  dj : ∀ b, (b = T ∨ blk a = some b ∨ b = B) → ¬ (b = M ∨ blk a2 = some b)
theorem PrAt.mod {S : Nat → Prop} {w w' : World} {T M B : Nat} {a : Option Addr} {c : Nat} {a2 : Option Addr} {c2 : Nat} {l : List ByteArray} (h : PrAt w T M B a c a2 c2 l) (m : Mod S w w') (hs : ∀ b, PrF T M B a a2 b → ¬ S b) : PrAt w' T M B a c a2 c2 l :=
  ⟨h.tb.mod m (hs T (.inl (.inl rfl))) (fun b hb => hs b (.inl (.inr (.inl hb)))) (hs B (.inl (.inr (.inr rfl)))), h.rb.mod m (hs M (.inr (.inl rfl))) (fun b hb => hs b (.inr (.inr hb))), h.dj⟩
theorem PrAt.lt {w : World} {T M B : Nat} {a : Option Addr} {c : Nat} {a2 : Option Addr} {c2 : Nat} {l : List ByteArray} (h : PrAt w T M B a c a2 c2 l) {b : Nat} (hb : PrF T M B a a2 b) : b < w.heap.size := by
  rcases hb with (rfl | hb | rfl) | (rfl | hb)
  · exact h.tb.ltT
  · exact h.tb.own.lt b hb
  · exact h.tb.map.lt
  · exact h.rb.ltM
  · exact h.rb.own.lt b hb
/-- what an operation on a pair leaves behind -/
def DPost (T M B : Nat) (a a2 : Option Addr) (l xs : List ByteArray) (w : World) (e : Ending) (w' : World) : Prop :=
  e = .returned (.bool true) ∧ ∃ a' c' a2' c2' l', PrAt w' T M B a' c' a2' c2' l' ∧ (l' = l ∨ (longT xs = false ∧ l' = (putT l xs).2)) ∧ Mod (PrF T M B a a2) w w' ∧ ∀ b, PrF T M B a' a2' b → PrF T M B a a2 b ∨ w.heap.size ≤ b
attribute [local go_sem] Oper.semAt_some
@[local go_sem, local simp] theorem wide_fnX (f : FuncId) : Fence.wide.fn f = True := rfl
@[local go_sem, local simp] theorem wide_depthX : Fence.wide.depth = none := rfl
theorem seq_nil (V : Nat) (w : World) : (binOp .eql 48 (.func (.func 32) #[] #[.pointer (some ⟨V, 0, none⟩)]) .nilFunc).run Try.prog w = .ok (.bool false) w := by kernel_rfl
/-- what walk's rounds over nothing find -/
def WkN (w : World) (E : Nat) (pre : List (Nat × ByteArray)) (W : World) : Prop :=
  Boxed W (w.heap.size + 1 + 1 + 1) 4 (.bool false) ∧ Boxed W E 3 (.int .i64 0) ∧ Boxed W (E + 1) 3 (.int .i64 0) ∧ Mod (fun _ => False) w W
theorem wkN_own (w : World) (E B : Nat) (hB : w.heap.size ≤ B) : OwnFrom B (WkN w E) := by
  rintro pre W W' row ⟨h1, h2, h3, h4⟩ hg hr
  have hr2 := fun r e => (hr r e).2
  exact ⟨bx_turned h1 hg hr2, bx_turned h2 hg hr2, bx_turned h3 hg hr2, Mod.turned h4 hg (fun r e => Nat.le_trans hB (hr r e).1)⟩
theorem walk_nil (kd wh N : Int) (ta : Option Addr) (n tc : Nat) (w : World) :
    Calls Try.prog 23 #[.pointer none, .pointer none, .agg #[.int .i64 kd, .int .i64 wh, .slice ta n tc, .int .i64 N]] w fun e w' => e = .returned (.bool true) ∧ Mod (fun _ => False) w w' := by
  refine (callsIn_wide (n := 3)).1 ?_
  refine callsIn_of_wp_marks Try.func23 rfl trivial ?_ rfl
  simp only [Try.ntmps23, List.size_toArray, List.length_cons, List.length_nil, Nat.reduceAdd, Nat.reduceSub, Array.replicate_succ, Array.replicate_zero, List.push_toArray, List.append_toArray, List.nil_append, List.cons_append]
  have m4 : Mod (fun _ => False) w ((((w.alloc (.cells #[.pointer none] 27)).alloc (.cells #[.pointer none] 29)).alloc (.cells #[.int .i64 kd, .int .i64 wh, .slice ta n tc, .int .i64 N] 34)).alloc (.cells #[.bool false] 4)) := ((((Mod.refl _ w).alloc _).alloc _).alloc _).alloc _
  have b1 := ((((Boxed.new w 27 (.pointer none)).alloc (.cells #[.pointer none] 29)).alloc (.cells #[.int .i64 kd, .int .i64 wh, .slice ta n tc, .int .i64 N] 34)).alloc (.cells #[.bool false] 4))
  have b2 := ((Boxed.new (w.alloc (.cells #[.pointer none] 27)) 29 (.pointer none)).alloc (.cells #[.int .i64 kd, .int .i64 wh, .slice ta n tc, .int .i64 N] 34)).alloc (.cells #[.bool false] 4)
  have b4 := Boxed.new (((w.alloc (.cells #[.pointer none] 27)).alloc (.cells #[.pointer none] 29)).alloc (.cells #[.int .i64 kd, .int .i64 wh, .slice ta n tc, .int .i64 N] 34)) 4 (.bool false)
  simp only [World.size_alloc] at b2 b4
  gi_wp2_with fail
  obtain ⟨w4, hw4⟩ : ∃ v, v = ((((w.alloc (.cells #[.pointer none] 27)).alloc (.cells #[.pointer none] 29)).alloc (.cells #[.int .i64 kd, .int .i64 wh, .slice ta n tc, .int .i64 N] 34)).alloc (.cells #[.bool false] 4)) := ⟨_, rfl⟩
  have hz4 : w4.heap.size = w.heap.size + 4 := by rw [hw4]; simp
  have HZ4 := Lib.hid hz4
  rw [← hw4] at m4 b1 b2 b4 ⊢
  clear hw4 hz4
  refine (callsIn_wide.2 (all_any none w4)).mono ?_
  rintro e w5 ⟨rfl, hw5⟩
  have m5 : Mod (fun _ => False) w4 w5 := by rw [hw5]; exact (Mod.refl _ w4).alloc _
  have hV : w5.heap[w4.heap.size]? = some (.cells #[.pointer none] 27 (0, 0)) := by rw [hw5]; exact heap_alloc_new w4 _
  have d2 := (bx_mod b2 m5 id).cell
  have HB4 := Lib.hid (bx_mod b4 m5 id); have HV := Lib.hid hV; have HM := Lib.hid (m4.trans m5)
  have hsn := seq_nil w4.heap.size
  clear hw5 b1 b2 b4 m4 m5 hV
  gi_wp2_with fail
  refine (callsIn_wide.2 (rlen_nil w5)).mono ?_
  rintro e w6 ⟨rfl, hw6⟩
  obtain rfl : w5 = w6 := hw6
  have hz5 : w.heap.size + 4 ≤ w5.heap.size := by have := HB4.out.lt; have h2 := (Array.getElem?_eq_some_iff.1 HV.out).1; have h3 := HZ4.out; omega
  have HZ5 := Lib.hid hz5
  clear hz5
  gi_wp2_with fail
  clear hsn d2
  have m7 : Mod (fun _ => False) w5 ((w5.alloc (.cells #[.int .i64 0] 3)).alloc (.cells #[.int .i64 0] 3)) := ((Mod.refl _ w5).alloc _).alloc _
  have b8 := (Boxed.new w5 3 (.int .i64 0)).alloc (.cells #[.int .i64 0] 3)
  have b9 := Boxed.new (w5.alloc (.cells #[.int .i64 0] 3)) 3 (.int .i64 0)
  simp only [World.size_alloc] at b9
  have hz7 : ((w5.alloc (.cells #[.int .i64 0] 3)).alloc (.cells #[.int .i64 0] 3)).heap.size = w5.heap.size + 2 := by simp
  obtain ⟨w7, hw7⟩ : ∃ v, v = (w5.alloc (.cells #[.int .i64 0] 3)).alloc (.cells #[.int .i64 0] 3) := ⟨_, rfl⟩
  rw [← hw7] at m7 b8 b9 hz7 ⊢
  clear hw7
  have hSeq := all_stops0 2 w4.heap.size none w7 (m7.at HV.out id) (fun W _ => len_nil W)
  have hKb : ∀ (W : World) (l : Nat) (o o' : Obj), w7.heap.size ≤ l → W.heap[l]? = some o → o.isCells = false → o.isWalk = false → KpR 0 W (W.putObj l o') := KpR.putObj (w := w7) (Nat.zero_le _)
  have HI0 : Hid (WkN w w5.heap.size [] w7) := Lib.hid ⟨bx_mod HB4.out m7 id, b8, b9, HM.out.trans m7⟩
  have HZ7 := Lib.hid hz7
  clear m7 b8 b9 hz7
  refine wpIn_rangeFunc_ownG rfl (by omega) (gf := 32) (lb := #[.pointer (some ⟨w4.heap.size, 0, none⟩)]) rfl trivial (enters_of Try.func32 (by kernel_rfl) rfl)
    hSeq (fun h k => KpR.trans h k) hKb (Below.refl _ _) (fun _ => rfl) (WkN w w5.heap.size) (fun _ _ _ => False) (wkN_own w w5.heap.size w7.heap.size (by have := HZ5.out; have := HZ7.out; omega)) (fun c => by rintro pre W W' row h; exact h.elim) HI0.out
    (fun x => { tmps := #[.pointer none, .pointer none, .agg #[.int .i64 kd, .int .i64 wh, .slice ta n tc, .int .i64 N], .pointer (some ⟨w.heap.size, 0, none⟩), .pointer (some ⟨w.heap.size + 1, 0, none⟩), .pointer (some ⟨w.heap.size + 1 + 1, 0, none⟩), .pointer (some ⟨w.heap.size + 1 + 1 + 1, 0, none⟩), .func (.func 32) #[] #[.pointer (some ⟨w4.heap.size, 0, none⟩)], .pointer (some ⟨w5.heap.size, 0, none⟩), .pointer (some ⟨w5.heap.size + 1, 0, none⟩), .int .i64 (x.1 : Nat), .string x.2, undef, undef, undef, undef, undef, undef, .pointer none, .func (.func 32) #[] #[.pointer (some ⟨w4.heap.size, 0, none⟩)], .func (.func 32) #[] #[.pointer (some ⟨w4.heap.size, 0, none⟩)], .bool false, .pointer none, .int .i64 0, .func (.func 32) #[] #[.pointer (some ⟨w4.heap.size, 0, none⟩)], .int .i64 (x.1 : Nat), .string x.2, undef, undef, undef, undef, undef, undef, undef, undef, undef, undef, undef, undef, undef, undef, undef, undef, undef, undef, undef, undef, undef, undef, undef, undef, undef, undef, undef, undef, undef, undef, undef, undef, undef, undef, undef, undef, undef, undef, undef, undef, undef, undef, undef, undef, undef, undef, undef, undef, undef, undef, undef], defers := [] })
    ?assign ?body ?done ?stop
  case assign =>
    rintro l1 x W K hK
    simp only [encW]
    gi_wp2
    exact hK
  case body =>
    rintro l1 pre x W _ hlt
    exact absurd hlt (Nat.not_lt_zero _)
  case done =>
    rintro D ys W hD he ⟨h6, h8, h9, hm⟩ hK
    have c8 := h8.cell; have c9 := h9.cell; have c6 := h6.cell; have f6 := h6.frozen
    have HM2 := Lib.hid hm; have H6 := Lib.hid h6; have HK := Lib.hid hK; have HD := Lib.hid hD
    clear h6 h8 h9 hm hK hKb hSeq hD
    gi_wp2
    have hD := HD.out; have hZ5 := HZ5.out; have hZ7 := HZ7.out
    have hs5 : Mod (fun k => k = w.heap.size + 1 + 1 + 1) W (W.setCell ⟨w.heap.size + 1 + 1 + 1, 0, none⟩ (.bool true)) := (Mod.refl (fun k => k = w.heap.size + 1 + 1 + 1) W).setCell (p := ⟨w.heap.size + 1 + 1 + 1, 0, none⟩) (fun _ => rfl) _
    have hb5 := bx_put H6.out (.bool true)
    generalize W.setCell ⟨w.heap.size + 1 + 1 + 1, 0, none⟩ (.bool true) = W' at *
    have hK' := hs5.at HK.out (by omega)
    have hG := Mod.ofGrown (grownBy_putObj' W' D (.deferred none))
    refine ⟨by simp, .inl ⟨_, _, rfl, run_takeDeferred hK', ?_⟩⟩
    have c6 := (bx_mod hb5 hG (fun e => by cases e; omega)).cell
    refine ⟨.bool true, ?_, rfl, (HM2.out.step hs5 (fun i hi e => by omega)).step hG (fun i hi e => by cases e; omega)⟩
    simp [results, Try.f23, go_sem, c6]
  case stop =>
    rintro D cc pre W hD hpre h
    exact h.elim
end Go.Proofs.Ytcmgeiohcgngeaa
