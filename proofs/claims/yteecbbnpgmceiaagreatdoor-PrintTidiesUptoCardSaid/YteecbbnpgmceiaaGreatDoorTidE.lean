/-
  The set's rules one by one.
-/
import Derived.Test.YteecbbnpgmceiaaGreatDoorTidD
import Derived.Test.YteecbbnpgmceiaaGreatDoorEcG
namespace Go.Proofs.YteecbbnpgmceiaaGreatDoor
open Go Go.RowKit Go.Mine
set_option linter.unusedVariables false
set_option maxHeartbeats 4000000
set_option maxRecDepth 100000

theorem items_any (B : Nat) (xs : List Wv) (a : Option Addr) (c : Nat) (w : World) (h : SetO w B a c xs) (hn : xs.length ≤ 2 ^ 20) :
    Calls Tryz.prog 89 #[.pointer (some ⟨B, 0, none⟩)] w fun e w' => ∃ a c, e = .returned (.slice a xs.length c) ∧ Mine.Own w' 83 4 a xs.length c (wnsC xs) ∧ Mod (fun _ => False) w w' ∧ (∀ b, blk a = some b → w.heap.size ≤ b) := by
  have HC := Lib.hid (cloneW_any xs a c w h.own.rd (by omega) (fun x hx => (h.one x hx).cell))
  have s1 := cell_at (j := 1) h.at_ rfl
  clear h
  go_enter Tryz.func89, Tryz.ntmps89
  go_wp2_with fail
  refine HC.out.mono ?_
  rintro e w1 ⟨a1, c1, rfl, hR, hM, hF⟩
  have HR := Lib.hid hR; have HM := Lib.hid hM; have HF := Lib.hid hF
  clear hR hM hF s1 HC
  go_wp2_with fail
  go_ret
  exact ⟨a1, c1, rfl, HR.out, HM.out, HF.out⟩
theorem values_any (a : Option Addr) (n c : Nat) (w : World) :
    Calls Tryz.prog 88 #[.slice a n c] w fun e w' => e = .returned (.func (.func 140) #[] #[.pointer (some ⟨w.heap.size, 0, none⟩)]) ∧ w' = w.alloc (.cells #[.slice a n c] 142) := by
  go_enter Tryz.func88, Tryz.ntmps88
  go_wp2
  go_ret
  exact ⟨rfl, rfl⟩
theorem eachW_any (B : Nat) (xs : List Wv) (a : Option Addr) (c : Nat) (w : World) (h : SetO w B a c xs) (hn : xs.length ≤ 2 ^ 20) :
    Calls Tryz.prog 42 #[.pointer (some ⟨B, 0, none⟩)] w fun e w' => ∃ V a' c', e = .returned (.func (.func 140) #[] #[.pointer (some ⟨V, 0, none⟩)]) ∧
      w'.heap[V]? = some (.cells #[.slice a' xs.length c'] 142 (0, 0)) ∧ Mine.Own w' 83 4 a' xs.length c' (wnsC xs) ∧ Mod (fun _ => False) w w' ∧ w.heap.size ≤ V ∧ (∀ b, blk a' = some b → w.heap.size ≤ b) := by
  have HC := Lib.hid (items_any B xs a c w h hn)
  clear h
  go_enter Tryz.func42, Tryz.ntmps42
  go_wp2_with fail
  refine HC.out.mono ?_
  rintro e w1 ⟨a1, c1, rfl, hR, hM, hF⟩
  have HR := Lib.hid hR; have HM := Lib.hid hM; have HF := Lib.hid hF
  clear hR hM hF HC
  go_wp2_with fail
  refine (values_any _ _ _ _).mono ?_
  rintro e w2 ⟨rfl, hw⟩
  have HW := Lib.hid hw
  clear hw
  go_wp2_with fail
  go_ret
  have hm : Mod (fun _ => False) w1 w2 := by rw [HW.out]; exact (Mod.refl _ w1).alloc _
  exact ⟨_, a1, c1, rfl, by rw [HW.out]; exact heap_alloc_new w1 _, HR.out.mod hm (fun _ _ => id), HM.out.trans hm, HM.out.size, HF.out⟩

/-- the parts of a slice -/
def sA : Value → Option Addr
  | .slice a _ _ => a
  | _ => none
def sN : Value → Nat
  | .slice _ n _ => n
  | _ => 0
def sC : Value → Nat
  | .slice _ _ c => c
  | _ => 0
def sS (v : Value) : Value := .slice (sA v) (sN v) (sC v)
def wnE (x : Wv) : Value := .agg #[.string x.1.1, .string x.1.2.head.pred, sS x.2.1, sS x.2.2]
def encV (x : Wv) : Array Value := #[wnE x]
/-- what a round keeps: the blocks between two places -/
structure KpR (lo hi : Nat) (W W' : World) : Prop where
  size : W.heap.size ≤ W'.heap.size
  same : ∀ k, lo ≤ k → k < hi → W'.heap[k]? = W.heap[k]?
theorem KpR.trans {lo hi : Nat} {A1 A2 A3 : World} (h : KpR lo hi A1 A2) (k : KpR lo hi A2 A3) : KpR lo hi A1 A3 :=
  ⟨Nat.le_trans h.size k.size, fun i h1 h2 => (k.same i h1 h2).trans (h.same i h1 h2)⟩
theorem KpR.of_mod {S : Nat → Prop} {lo hi : Nat} {W W' : World} (h : Mod S W W') (hl : hi ≤ W.heap.size) (hs : ∀ k, lo ≤ k → k < hi → ¬ S k) : KpR lo hi W W' :=
  ⟨h.size, fun k h1 h2 => h.block k (by omega) (hs k h1 h2)⟩
theorem KpR.putObj {lo hi : Nat} {w : World} (hh : hi ≤ w.heap.size) (W : World) (l : Nat) (o o' : Obj) (hl : w.heap.size ≤ l) (h : W.heap[l]? = some o) (hc : o.isCells = false) (_ : o.isWalk = false) : KpR lo hi W (W.putObj l o') :=
  ⟨by simp, fun k h1 h2 => World.putObj_heap_other (by omega)⟩

attribute [local go_sem] Oper.semAt_some
@[local go_sem, local simp] theorem wide_fnV (f : FuncId) : Fence.wide.fn f = True := rfl
@[local go_sem, local simp] theorem wide_depthV : Fence.wide.depth = none := rfl
theorem rd_of_same {w w' : World} {a : Option Addr} {us : List Value} {lo hi : Nat} (h : Rd w a us) (hk : ∀ k, lo ≤ k → k < hi → w'.heap[k]? = w.heap[k]?) (hb : ∀ b, blk a = some b → lo ≤ b ∧ b < hi) : Rd w' a us := by
  intro i u hi
  obtain ⟨b, o, rfl, hc⟩ := h i u hi
  obtain ⟨h1, h2⟩ := hb b rfl
  exact ⟨b, o, rfl, (World.cell?_of_block (hk b h1 h2)).trans hc⟩
theorem values1_in (n l V lo hi : Nat) (xs : List Wv) (a : Option Addr) (c : Nat) (J Jx : List Wv → World → Prop) (W : World) (hn : xs.length ≤ 2 ^ 20)
    (hJ : AbidesFrom W.heap.size J)
    (hY : ∀ pre x W1, J pre W1 → pre.length < xs.length → YieldAt Fence.wide (n - 1) Tryz.prog l (encV x) W1 fun e W' =>
      (e = .returned (.bool true) ∧ J (pre ++ [x]) W' ∧ KpR lo hi W1 W') ∨ (e = .returned (.bool false) ∧ Jx (pre ++ [x]) W'))
    (hV : W.heap[V]? = some (.cells #[.slice a xs.length c] 142 (0, 0))) (hR : Rd W a (wnsC xs)) (hlo : lo ≤ V ∧ V < hi) (hab : ∀ b, blk a = some b → lo ≤ b ∧ b < hi) (hhi : hi ≤ W.heap.size) (h0 : J [] W) (h1 : ∀ x ∈ xs, One x) :
    CallsIn Fence.wide n Tryz.prog 140 #[.func (.yield l) #[] #[], .pointer (some ⟨V, 0, none⟩)] W fun e W' => (∃ v, e = .returned v) ∧
      ((∃ ys, ys = xs ∧ J ys W') ∨ (∃ pre, pre <+: xs ∧ Jx pre W')) := by
  refine callsIn_of_wp Tryz.func140 rfl trivial ?_ rfl
  simp only [Tryz.ntmps140, List.size_toArray, List.length_cons, List.length_nil, Nat.reduceAdd, Nat.reduceSub, Array.replicate_succ, Array.replicate_zero, List.push_toArray, List.append_toArray, List.nil_append, List.cons_append]
  have cV : W.cell? ⟨V, 0, none⟩ = some (.slice a xs.length c) := cell_at hV rfl
  have HY := Lib.hid hY; have HV := Lib.hid hV; have HR := Lib.hid hR; have HAB := Lib.hid hab; have H0 := Lib.hid h0; have HJ := Lib.hid hJ
  have HLO := Lib.hid hlo; have HHI := Lib.hid hhi; have H1 := Lib.hid h1
  clear hY hV hR hab h0 hJ hlo hhi h1
  gi_wp2
  clear cV
  gi_loopw [4, 7] (fun _ iv wr => ∃ k : Nat, iv = .int .i64 k ∧ k ≤ xs.length ∧ Hid (J (xs.take k) wr) ∧ Hid (KpR lo hi W wr)) (fun _ iv _ => xs.length - (intOf iv).toNat)
  case atStart => exact ⟨0, rfl, Nat.zero_le _, Lib.hid (by simpa using H0.out), Lib.hid ⟨Nat.le_refl _, fun _ _ _ => rfl⟩⟩
  case round =>
    obtain ⟨k, rfl, hk, hJs, hKp⟩ := hrel
    by_cases hlt : k < xs.length
    · obtain ⟨b, o, rfl, x0, x1, x2, x3⟩ := rd_cellW (rd_of_same HR.out hKp.out.same HAB.out) hlt
      have hm1 : Mod (fun _ => False) wr (wr.alloc (.cells (wnC xs[k]).toArray 83)) := (Mod.refl _ wr).alloc _
      have hb1 := heap_alloc_new wr (.cells (wnC xs[k]).toArray 83)
      have y0 : (wr.alloc (.cells (wnC xs[k]).toArray 83)).cell? ⟨wr.heap.size, 0, none⟩ = some (.string xs[k].1.1) := cell_at hb1 rfl
      have y1 : (wr.alloc (.cells (wnC xs[k]).toArray 83)).cell? ⟨wr.heap.size, 1, none⟩ = some (.string xs[k].1.2.head.pred) := cell_at hb1 rfl
      have y2 : (wr.alloc (.cells (wnC xs[k]).toArray 83)).cell? ⟨wr.heap.size, 2, none⟩ = some xs[k].2.1 := cell_at hb1 rfl
      have y3 : (wr.alloc (.cells (wnC xs[k]).toArray 83)).cell? ⟨wr.heap.size, 3, none⟩ = some xs[k].2.2 := cell_at hb1 rfl
      obtain ⟨fn, tmps, assign, body, hy0, hRr⟩ := HY.out (xs.take k) xs[k] (wr.alloc (.cells (wnC xs[k]).toArray 83)) (abides_mod HJ.out hJs.out hm1) (by rw [List.length_take]; omega)
      have HRr := Lib.hid hRr
      have HKA := Lib.hid (KpR.trans hKp.out (KpR.of_mod (lo := lo) hm1 (Nat.le_trans HHI.out hKp.out.size) (fun _ _ _ => id)))
      have htk : xs.take k ++ [xs[k]] = xs.take (k + 1) := List.take_append_getElem hlt
      rw [htk] at HRr
      have HTK := Lib.hid htk
      unfold encV wnE at hy0
      have HWC : Hid (wnC xs[k] = [.string xs[k].1.1, .string xs[k].1.2.head.pred, xs[k].2.1, xs[k].2.2]) := rfl
      rw [HWC.out] at y0 y1 y2 y3 HRr HKA hy0
      obtain ⟨⟨ta, tn, tc, hts⟩, ua, un, uc, htb⟩ := H1.out xs[k] (List.getElem_mem hlt)
      rw [hts] at x2 y2 HRr HKA hy0 y0 y1 y3
      rw [htb] at x3 y3 HRr HKA hy0 y0 y1 y2
      clear hts htb HWC
      unfold sS at hy0
      simp only [sA, sN, sC] at hy0
      clear hb1 hRr htk hm1
      generalize xs[k].1.1 = tt at *
      generalize xs[k].1.2.head.pred = tp at *
      have hy : (Instr.yield l #[.agg #[.string tt, .string tp, .slice ta tn tc, .slice ua un uc]]).run Tryz.prog (wr.alloc (.cells #[.string tt, .string tp, .slice ta tn tc, .slice ua un uc] 83)) = .ok (.round l fn tmps assign body) (wr.alloc (.cells #[.string tt, .string tp, .slice ta tn tc, .slice ua un uc] 83)) := hy0
      clear hy0
      gi_wp2
      refine HRr.out.mono ?_
      rintro e W3 (⟨rfl, hJ3, hk3⟩ | ⟨rfl, hJx3⟩)
      · have HK3 := Lib.hid (KpR.trans HKA.out hk3); have HJ3 := Lib.hid hJ3; clear hk3 hJ3
        gi_wp2
        go_roundw
        case rel => exact ⟨k + 1, by go_num, hlt, HJ3, HK3⟩
        case measure => simp [intOf]; omega
      · gi_wp2
        refine bodyPost_ret (results_none rfl _ _ _) rfl ?_
        exact ⟨⟨_, rfl⟩, .inr ⟨_, List.take_prefix _ _, hJx3⟩⟩
    · obtain rfl : k = xs.length := by omega
      gi_wp2
      go_end0
      exact ⟨⟨_, rfl⟩, .inl ⟨xs, rfl, by have := hJs.out; rwa [List.take_length] at this⟩⟩
theorem values_stops (n V lo : Nat) (xs : List Wv) (a : Option Addr) (c : Nat) (w : World) (hn : xs.length ≤ 2 ^ 20) (hV : w.heap[V]? = some (.cells #[.slice a xs.length c] 142 (0, 0))) (hO : Mine.Own w 83 4 a xs.length c (wnsC xs)) (hlo : lo ≤ V) (hab : ∀ b, blk a = some b → lo ≤ b) (h1 : ∀ x ∈ xs, One x) :
    SeqStopsK Fence.wide n Tryz.prog 140 #[.pointer (some ⟨V, 0, none⟩)] encV (KpR lo w.heap.size) (fun ys => ys = xs) (fun pre => pre <+: xs) xs.length w := by
  intro l J Jx W hW hJ hJx hY h0
  have hM : Mod (fun _ => False) w W := Mod.ofBelow hW
  exact values1_in n l V lo w.heap.size xs a c J Jx W hn hJ hY (hM.at hV id) (hO.rd.mod hM (fun _ _ => id)) ⟨hlo, (Array.getElem?_eq_some_iff.1 hV).1⟩ (fun b hb => ⟨hab b hb, hO.lt b hb⟩) hM.size h0 h1
end Go.Proofs.YteecbbnpgmceiaaGreatDoor
