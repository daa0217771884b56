/-
  slices.Sorted(slices.Values(texts)), walked.
-/
import Derived.Test.YtcmgeiohcgngeaaSymR
import Derived.Test.YtcmgeiohcgngeaaLaySt
import Derived.Test.YtcmgeiohcgngeaaRng
import Derived.Sort.OwnSorted
import Derived.Sort.KeysCollected
namespace Go.Proofs.Ytcmgeiohcgngeaa
open Go Go.RowKit Go.Mine Go.Maps Go.Shelf Go.Sort
set_option linter.unusedVariables false
set_option maxHeartbeats 8000000
set_option maxRecDepth 100000

theorem ti30V : TI Try.prog 30 9 1 16 := TI.mk' (z := .string ByteArray.empty) (by kernel_rfl) (by kernel_rfl) rfl (by omega)
theorem valT_any (a : Option Addr) (n c : Nat) (w : World) :
    Calls Try.prog 37 #[.slice a n c] w fun e w' => e = .returned (.func (.func 47) #[] #[.pointer (some ⟨w.heap.size, 0, none⟩)]) ∧ w' = w.alloc (.cells #[.slice a n c] 30) := by
  go_enter Try.func37, Try.ntmps37
  go_wp2
  go_ret
  exact ⟨rfl, rfl⟩
attribute [local go_sem] Oper.semAt_some
@[local go_sem, local simp] theorem wide_fnV (f : FuncId) : Fence.wide.fn f = True := rfl
@[local go_sem, local simp] theorem wide_depthV : Fence.wide.depth = none := rfl
def encT (x : ByteArray) : Array Value := #[.string x]
theorem valT1_in (n l V hi : Nat) (xs : List ByteArray) (a : Option Addr) (c : Nat) (J Jx : List ByteArray → World → Prop) (W : World) (hn : xs.length ≤ 2 ^ 21)
    (hY : ∀ pre x W1, J pre W1 → pre.length < xs.length → YieldAt Fence.wide (n - 1) Try.prog l (encT x) W1 fun e W' =>
      (e = .returned (.bool true) ∧ J (pre ++ [x]) W' ∧ KpR hi W1 W') ∨ (e = .returned (.bool false) ∧ Jx (pre ++ [x]) W'))
    (hV : W.heap[V]? = some (.cells #[.slice a xs.length c] 30 (0, 0))) (hR : Rd W a (sts xs)) (hab : ∀ b, blk a = some b → b < hi) (h0 : J [] W) :
    CallsIn Fence.wide n Try.prog 47 #[.func (.yield l) #[] #[], .pointer (some ⟨V, 0, none⟩)] W fun e W' => (∃ v, e = .returned v) ∧
      ((∃ ys, ys = xs ∧ J ys W') ∨ (∃ pre, pre <+: xs ∧ Jx pre W')) := by
  refine callsIn_of_wp Try.func47 rfl trivial ?_ rfl
  simp only [Try.ntmps47, List.size_toArray, List.length_cons, List.length_nil, Nat.reduceAdd, Nat.reduceSub, Array.replicate_succ, Array.replicate_zero, List.push_toArray, List.append_toArray, List.nil_append, List.cons_append]
  have cV : W.cell? ⟨V, 0, none⟩ = some (.slice a xs.length c) := cell_at hV rfl
  have HY := Lib.hid hY; have HR := Lib.hid hR; have HAB := Lib.hid hab; have H0 := Lib.hid h0
  clear hY hV hR hab h0
  gi_wp2
  clear cV
  gi_loopw [4, 7] (fun _ iv wr => ∃ k : Nat, iv = .int .i64 k ∧ k ≤ xs.length ∧ Hid (J (xs.take k) wr) ∧ Hid (KpR hi W wr)) (fun _ iv _ => xs.length - (intOf iv).toNat)
  case atStart => exact ⟨0, rfl, Nat.zero_le _, Lib.hid (by simpa using H0.out), Lib.hid ⟨Nat.le_refl _, fun _ _ => rfl⟩⟩
  case round =>
    obtain ⟨k, rfl, hk, hJs, hKp⟩ := hrel
    by_cases hlt : k < xs.length
    · obtain ⟨b, o, rfl, x0⟩ := str_cell (rd_of_same HR.out hKp.out.same HAB.out) hlt
      obtain ⟨fn, tmps, assign, body, hy0, hRr⟩ := HY.out (xs.take k) xs[k] wr hJs.out (by rw [List.length_take]; omega)
      have HRr := Lib.hid hRr
      have htk : xs.take k ++ [xs[k]] = xs.take (k + 1) := List.take_append_getElem hlt
      rw [htk] at HRr
      have HTK := Lib.hid htk
      unfold encT at hy0
      clear hRr htk
      generalize xs[k] = s at *
      gi_wp2
      refine HRr.out.mono ?_
      rintro e W3 (⟨rfl, hJ3, hk3⟩ | ⟨rfl, hJx3⟩)
      · have HK3 := Lib.hid (KpR.trans hKp.out hk3); have HJ3 := Lib.hid hJ3; clear hk3 hJ3
        gi_wp2
        go_roundw
        case rel => exact ⟨k + 1, by go_num, hlt, HJ3, HK3⟩
        case measure => simp [intOf]; omega
      · gi_wp2
        refine bodyPost_ret (results_none rfl _ _ _) rfl ?_
        exact ⟨⟨_, rfl⟩, .inr ⟨_, List.take_prefix _ _, hJx3⟩⟩
    · obtain rfl : k = xs.length := by omega
      gi_wp2
      go_end0
      exact ⟨⟨_, rfl⟩, .inl ⟨xs, rfl, by have := hJs.out; rwa [List.take_length] at this⟩⟩
theorem valT_stops (n V hi : Nat) (xs : List ByteArray) (a : Option Addr) (c : Nat) (w : World) (hn : xs.length ≤ 2 ^ 21) (hV : w.heap[V]? = some (.cells #[.slice a xs.length c] 30 (0, 0))) (hR : Rd w a (sts xs)) (hab : ∀ b, blk a = some b → b < hi) :
    SeqStopsK Fence.wide n Try.prog 47 #[.pointer (some ⟨V, 0, none⟩)] encT (KpR hi) (fun ys => ys = xs) (fun pre => pre <+: xs) xs.length w := by
  intro l J Jx W hW hJ hJx hY h0
  have hM : Mod (fun _ => False) w W := Mod.ofBelow hW
  exact valT1_in n l V hi xs a c J Jx W hn hY (hM.at hV id) (hR.mod hM (fun _ _ => id)) hab h0
/-- what a round of AppendSeq finds -/
def ApI (w : World) (pre : List ByteArray) (W : World) : Prop :=
  Mod (fun _ => False) w W ∧ ∃ a c, Boxed W w.heap.size 30 (.slice a pre.length c) ∧ Mine.Own W 9 1 a pre.length c (sts pre) ∧ ∀ b, blk a = some b → w.heap.size < b
theorem apI_own (w : World) (B : Nat) (hB : w.heap.size ≤ B) : OwnFrom B (ApI w) := by
  rintro pre W W' row ⟨h1, a, c, h4, h5, h6⟩ hg hr
  have hr2 := fun r e => (hr r e).2
  exact ⟨Mod.turned h1 hg (fun r e => Nat.le_trans hB (hr r e).1), a, c, bx_turned h4 hg hr2, Mine.Own.turned h5 hg hr2, h6⟩
theorem appT_any (V : Nat) (xs : List ByteArray) (a : Option Addr) (c : Nat) (w : World) (hn : xs.length ≤ 2 ^ 21) (hV : w.heap[V]? = some (.cells #[.slice a xs.length c] 30 (0, 0))) (hR : Rd w a (sts xs)) (hab : ∀ b, blk a = some b → b < w.heap.size) :
    Calls Try.prog 63 #[.slice none 0 0, .func (.func 47) #[] #[.pointer (some ⟨V, 0, none⟩)]] w fun e w' => ∃ oa oc, e = .returned (.slice oa xs.length oc) ∧ Mine.Own w' 9 1 oa xs.length oc (sts xs) ∧ (∀ b, blk oa = some b → w.heap.size ≤ b) ∧ Mod (fun _ => False) w w' := by
  refine (callsIn_wide (n := 3)).1 ?_
  refine callsIn_of_wp_marks Try.func63 rfl trivial ?_ rfl
  simp only [Try.ntmps63, List.size_toArray, List.length_cons, List.length_nil, Nat.reduceAdd, Nat.reduceSub, Array.replicate_succ, Array.replicate_zero, List.push_toArray, List.append_toArray, List.nil_append, List.cons_append]
  gi_wp2_with fail
  have m0 : Mod (fun _ => False) w (w.alloc (.cells #[.slice none 0 0] 30)) := (Mod.refl _ w).alloc _
  have hb0 : Boxed (w.alloc (.cells #[.slice none 0 0] 30)) w.heap.size 30 (.slice none 0 0) := Boxed.new _ _ _
  have hz0 : (w.alloc (.cells #[.slice none 0 0] 30)).heap.size = w.heap.size + 1 := by simp
  obtain ⟨w0, hw0⟩ : ∃ v, v = w.alloc (.cells #[.slice none 0 0] 30) := ⟨_, rfl⟩
  rw [← hw0] at m0 hb0 hz0 ⊢
  clear hw0
  have hSeq := valT_stops 2 V w.heap.size xs a c w0 hn (m0.at hV id) (hR.mod m0 (fun _ _ => id)) hab
  have hKb := KpR.putObj (w := w0) (hi := w.heap.size) (by omega)
  have HI0 : Hid (ApI w [] w0) := Lib.hid ⟨m0, none, 0, hb0, Mine.Own.nil _ _ _, fun b hb => by simp at hb⟩
  have HZ := Lib.hid hz0
  clear m0 hb0 hz0 hV hR hab
  refine wpIn_rangeFunc_ownG rfl (by omega) (gf := 47) (lb := #[.pointer (some ⟨V, 0, none⟩)]) rfl trivial (enters_of Try.func47 (by kernel_rfl) rfl)
    hSeq (fun h k => KpR.trans h k) hKb (Below.refl _ _) (fun _ => rfl) (ApI w) (fun _ _ _ => False) (apI_own w w0.heap.size (by rw [HZ.out]; omega)) (fun c => by rintro pre W W' row h; exact h.elim) HI0.out
    (fun x => { tmps := #[.slice none 0 0, .func (.func 47) #[] #[.pointer (some ⟨V, 0, none⟩)], .pointer (some ⟨w.heap.size, 0, none⟩), undef, .slice none 0 0, .string x, .func (.func 47) #[] #[.pointer (some ⟨V, 0, none⟩)], .string x, undef, undef, undef, undef, undef], defers := [] })
    ?assign ?body ?done ?stop
  case assign =>
    rintro l1 x W K hK
    simp only [encT]
    gi_wp2
    exact hK
  case body =>
    rintro l1 pre x W ⟨h1, a7, c7, h4, h5, h6⟩ hlt
    have d5 := h4.cell
    have H1 := Lib.hid h1; have H4 := Lib.hid h4; have H5 := Lib.hid h5; have H6 := Lib.hid h6
    have HN5 : Hid (blk a7 ≠ some w.heap.size) := fun h => by have := H6.out _ h; omega
    have hb3 : pre.length ≤ 2 ^ 21 := by omega
    clear h1 h4 h5 h6 hKb hSeq
    gi_wp2_with (gi_at_builtin; refine wpLI_appendN (fun _ => trivial) (us := [_]) rfl (.tmp 8) (.tmp 10) 30 rfl ti30V rfl H5.out rfl rfl rfl (by omega) (by unfold maxLen; omega) ?_; intro a8 c8 w8 hO8 hG8 _
                 have hb8 : Boxed w8 _ _ _ := hG8.mod.at H4.out HN5.out
                 have d8 := hb8.cell
                 have f8 := hb8.frozen
                 have HB8 := Lib.hid hb8; have HO8 := Lib.hid hO8; have HG8 := Lib.hid hG8
                 clear hb8 hO8 hG8 d5)
    have hM : Mod (fun k => k = w.heap.size ∨ blk a7 = some k) W (w8.setCell ⟨w.heap.size, 0, none⟩ (.slice a8 (pre.length + 1) c8)) := (HG8.out.mod.mono (fun _ _ h => .inr h)).setCell (fun _ => .inl rfl) _
    have hsz := H1.out.size
    refine ⟨keepsFrom_mod hM ?_, KpR.of_mod hM (by omega) ?_, ?_, a8, c8, ?_, ?_, ?_⟩
    · rintro k (rfl | h) o ho
      · have := H4.out; unfold Boxed at this; rw [this] at ho; cases ho; rfl
      · obtain ⟨cur, hc⟩ := Mine.Own.blk_cells H5.out k h
        rw [hc] at ho; cases ho; rfl
    · rintro k hk2 (e | e)
      · omega
      · have := H6.out k e; omega
    · refine H1.out.step hM (fun i hi hs => ?_)
      rcases hs with e | e
      · omega
      · have := H6.out i e; omega
    · rw [List.length_append]; exact bx_put HB8.out _
    · rw [List.length_append, sts_append]
      exact HO8.out.mod ((Mod.refl (fun b => b = w.heap.size) w8).setCell (fun _ => rfl) _) (fun b hb e => by
        subst e
        rcases HG8.out.pos with e | ⟨g, e, hg⟩
        · rw [e] at hb; exact HN5.out hb
        · have h8 := H4.out.lt
          rw [e] at hb; cases hb; omega)
    · intro b hb
      rcases HG8.out.pos with e | ⟨g, e, hg⟩
      · rw [e] at hb; exact H6.out b hb
      · have h8 := H4.out.lt
        rw [e] at hb; cases hb; omega
  case done =>
    rintro D ys W hD he ⟨h1, a7, c7, h4, h5, h6⟩ hK
    have he2 : ys = xs := he
    subst he2
    have d4 := h4.cell
    have H1 := Lib.hid h1; have H5 := Lib.hid h5; have H6 := Lib.hid h6
    have HK := Lib.hid hK; have HD := Lib.hid hD
    clear h1 h4 h5 h6 hK hKb hSeq hD
    gi_wp2
    have hG := Mod.ofGrown (grownBy_putObj' W D (.deferred none))
    have hD := HD.out; have hZ := HZ.out
    refine ⟨by simp, .inl ⟨_, _, rfl, run_takeDeferred HK.out, ?_⟩⟩
    refine ⟨.slice a7 ys.length c7, by simp [results, Try.f63, go_sem], a7, c7, rfl, H5.out.mod hG (fun b hb e => ?_), fun b hb => Nat.le_of_lt (H6.out b hb), H1.out.step hG (fun i hi e => by cases e; omega)⟩
    obtain ⟨cur, hc⟩ := Mine.Own.blk_cells H5.out b hb
    cases e
    rw [HK.out] at hc; cases hc
  case stop =>
    rintro D cc pre W hD hpre h
    exact h.elim
/-- texts in their order -/
def unT (l : List UInt8) : ByteArray := ⟨l.toArray⟩
@[simp] theorem unT_tbs (x : ByteArray) : unT (tbs x) = x := tbs_inj (by unfold tbs unT; rw [ByteArray.toList_eq])
theorem tbs_unT (l : List UInt8) : tbs (unT l) = l := by unfold tbs unT; rw [ByteArray.toList_eq]
def srtT (l : List ByteArray) : List ByteArray := ((l.map tbs).mergeSort leB).map unT
theorem sts_enc (l : List ByteArray) : sts l = (l.map tbs).map encStr := by
  unfold sts
  rw [List.map_map]
  refine List.map_congr_left fun x _ => ?_
  show Value.string x = .string (unT (tbs x))
  rw [unT_tbs]
theorem sts_srt (l : List ByteArray) : sts (srtT l) = ((l.map tbs).mergeSort leB).map encStr := by
  unfold srtT sts
  rw [List.map_map]
  rfl
theorem srtT_len (l : List ByteArray) : (srtT l).length = l.length := by unfold srtT; rw [List.length_map, List.length_mergeSort, List.length_map]
theorem srtT_mem {l : List ByteArray} {x : ByteArray} (h : x ∈ srtT l) : x ∈ l := by
  unfold srtT at h
  obtain ⟨u, hu, rfl⟩ := List.mem_map.1 h
  obtain ⟨y, hy, rfl⟩ := List.mem_map.1 ((List.mergeSort_perm _ _).mem_iff.1 hu)
  rwa [unT_tbs]
theorem collT_any (V : Nat) (xs : List ByteArray) (a : Option Addr) (c : Nat) (w : World) (hn : xs.length ≤ 2 ^ 21) (hV : w.heap[V]? = some (.cells #[.slice a xs.length c] 30 (0, 0))) (hR : Rd w a (sts xs)) (hab : ∀ b, blk a = some b → b < w.heap.size) :
    Calls Try.prog 45 #[.func (.func 47) #[] #[.pointer (some ⟨V, 0, none⟩)]] w fun e w' => ∃ oa oc, e = .returned (.slice oa xs.length oc) ∧ Mine.Own w' 9 1 oa xs.length oc (sts xs) ∧ (∀ b, blk oa = some b → w.heap.size ≤ b) ∧ Mod (fun _ => False) w w' := by
  have HA := Lib.hid (appT_any V xs a c w hn hV hR hab)
  clear hV hR hab
  go_enter Try.func45, Try.ntmps45
  go_wp2_with fail
  refine HA.out.mono ?_
  rintro e w1 ⟨oa, oc, rfl, h⟩
  have H := Lib.hid h
  clear h HA
  go_wp2_with fail
  go_ret
  exact ⟨oa, oc, rfl, H.out⟩
theorem sortedT_any (V : Nat) (xs : List ByteArray) (a : Option Addr) (c : Nat) (w : World) (hn : xs.length ≤ 2 ^ 21) (hV : w.heap[V]? = some (.cells #[.slice a xs.length c] 30 (0, 0))) (hR : Rd w a (sts xs)) (hab : ∀ b, blk a = some b → b < w.heap.size) :
    Calls Try.prog 36 #[.func (.func 47) #[] #[.pointer (some ⟨V, 0, none⟩)]] w fun e w' => ∃ oa oc, e = .returned (.slice oa xs.length oc) ∧ Mine.Own w' 9 1 oa xs.length oc (sts (srtT xs)) ∧ (∀ b, blk oa = some b → w.heap.size ≤ b) ∧ Mod (fun _ => False) w w' := by
  have HA := Lib.hid (collT_any V xs a c w hn hV hR hab)
  clear hV hR hab
  go_enter Try.func36, Try.ntmps36
  go_wp2_with fail
  refine HA.out.mono ?_
  rintro e w1 ⟨oa, oc, rfl, hO, hf, hM⟩
  have hS : Calls Try.prog 46 #[.slice oa xs.length oc] w1 fun e w' => e = .returned (.tuple #[]) ∧ Mine.Own w' 9 1 oa xs.length oc (sts (srtT xs)) ∧ Mod (fun b => blk oa = some b) w1 w' := by
    rw [sts_srt]
    have hO1 := hO.1
    rcases hO.2 with ⟨rfl, h0, _⟩ | ⟨g, cur, rfl, hg, r3, r4, r5, r6⟩
    · obtain rfl : xs = [] := List.eq_nil_of_length_eq_zero h0
      refine (AnyM.slices_Sort_string_none sortZ none oc w1).mono ?_
      rintro e w' ⟨rfl, rfl⟩
      exact ⟨rfl, by simpa [sts] using hO, Mod.refl _ _⟩
    · have hH : Holds encStr w1 g 0 (xs.map tbs).toArray := holds_of_block hg (by rw [List.length_map, ← sts_enc, ← r6, Nat.mul_one])
      have hS := AnyM.slices_Sort_string sortZ g 0 oc (xs.map tbs) w1 hH (Array.getElem?_eq_some_iff.1 hg).1 (by rw [List.length_map]; omega)
      rw [List.length_map] at hS
      refine Calls.mono hS ?_
      rintro e w' ⟨rfl, n, os, rfl⟩
      have ho := ownsRow_sorted (n := n) (os := os) (ss := xs.map tbs) (ts := (xs.map tbs).mergeSort leB) (by simp) (Nat.zero_le g) hg (by simpa using r3) r4 r5
      refine ⟨rfl, ?_, (Mod.ofGrown (grownBy_sorted _)).mono (fun _ _ e => by cases e; rfl)⟩
      obtain ⟨q0, ⟨e0, _⟩ | ⟨g', cap', cur', e0, _, hgb, q1, q2, q3, q4⟩⟩ := ho
      · cases e0
      · cases e0
        rw [List.length_map] at q0 q1 q4
        exact ⟨by simp, .inr ⟨g, cur', rfl, hgb, q1, q2, q3, q4⟩⟩
  have HS := Lib.hid hS; have HF := Lib.hid hf; have HM := Lib.hid hM
  clear hS hf hM HA hO
  go_wp2_with fail
  refine HS.out.mono ?_
  rintro e w2 ⟨rfl, hO2, hM2⟩
  have HO2 := Lib.hid hO2; have HM2 := Lib.hid hM2
  clear hO2 hM2 HS
  go_wp2_with fail
  go_ret
  exact ⟨oa, oc, rfl, HO2.out, HF.out, HM.out.step HM2.out (fun i hi e => by have := HF.out i e; omega)⟩
end Go.Proofs.Ytcmgeiohcgngeaa
