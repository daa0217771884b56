/-
  Table.All: what its iterator gives, while the table grows.
-/
import Derived.Test.YtcmgeiohcgngeaaSymT2
import Derived.Test.YtcmgeiohcgngeaaRng
namespace Go.Proofs.Ytcmgeiohcgngeaa
open Go Go.RowKit Go.Mine Go.Maps Go.Shelf
set_option linter.unusedVariables false
set_option maxHeartbeats 8000000
set_option maxRecDepth 100000

theorem all_any (p : Option Addr) (w : World) :
    Calls Try.prog 11 #[.pointer p] w fun e w' => e = .returned (.func (.func 32) #[] #[.pointer (some ⟨w.heap.size, 0, none⟩)]) ∧ w' = w.alloc (.cells #[.pointer p] 27) := by
  go_enter Try.func11, Try.ntmps11
  go_wp2
  go_ret
  exact ⟨rfl, rfl⟩
attribute [local go_sem] Oper.semAt_some
@[local go_sem, local simp] theorem wide_fnW (f : FuncId) : Fence.wide.fn f = True := rfl
@[local go_sem, local simp] theorem wide_depthW : Fence.wide.depth = none := rfl
def encW (x : Nat × ByteArray) : Array Value := #[.int .i64 (x.1 : Nat), .string x.2]
def itmT (l : List ByteArray) : List (Nat × ByteArray) := (List.range l.length).map fun k => (k, l.getD k ⟨#[]⟩)
@[simp] theorem itmT_len (l : List ByteArray) : (itmT l).length = l.length := by simp [itmT]
theorem itmT_get {l : List ByteArray} {k : Nat} (hk : k < l.length) : (itmT l)[k]'(by simpa using hk) = (k, l[k]) := by simp [itmT, hk]
theorem itmT_take {l : List ByteArray} {k : Nat} (hk : k < l.length) : (itmT l).take k ++ [(k, l[k])] = (itmT l).take (k + 1) := by
  rw [List.take_succ_eq_append_getElem (by simpa using hk), itmT_get hk]
/-- what a round keeps: the box, and a table that may have grown -/
structure KpW (V T B : Nat) (W W' : World) : Prop where
  size : W.heap.size ≤ W'.heap.size
  box : ∀ p, W.heap[V]? = some (.cells #[p] 27 (0, 0)) → W'.heap[V]? = some (.cells #[p] 27 (0, 0))
  tab : ∀ l a c, TbAt W T a c B l → ∃ l' a' c', l <+: l' ∧ TbAt W' T a' c' B l'
theorem KpW.refl (V T B : Nat) (W : World) : KpW V T B W W := ⟨Nat.le_refl _, fun _ h => h, fun l a c h => ⟨l, a, c, List.prefix_refl _, h⟩⟩
theorem KpW.trans {V T B : Nat} {A1 A2 A3 : World} (h : KpW V T B A1 A2) (k : KpW V T B A2 A3) : KpW V T B A1 A3 :=
  ⟨Nat.le_trans h.size k.size, fun p e => k.box p (h.box p e), fun l a c e => by
    obtain ⟨l1, a1, c1, h1, e1⟩ := h.tab l a c e
    obtain ⟨l2, a2, c2, h2, e2⟩ := k.tab l1 a1 c1 e1
    exact ⟨l2, a2, c2, h1.trans h2, e2⟩⟩
theorem KpW.of_mod {S : Nat → Prop} {V T B : Nat} {W W' : World} (h : Mod S W W') (hV : ¬ S V) (hT : ¬ S T) (hB : ¬ S B) (ha : ∀ l a c, TbAt W T a c B l → ∀ b, blk a = some b → ¬ S b) : KpW V T B W W' :=
  ⟨h.size, fun p e => h.at e hV, fun l a c e => ⟨l, a, c, List.prefix_refl _, e.mod h hT (ha l a c e) hB⟩⟩
theorem TMap.isMap {w : World} {B : Nat} {l : List ByteArray} (h : TMap w B l) : ∃ o : Obj, w.heap[B]? = some o ∧ o.isWalk = true := by
  obtain ⟨D, ho, _⟩ := h
  obtain ⟨es, clock, hb, _⟩ := ho
  exact ⟨_, hb, rfl⟩
theorem KpW.putObj {V T B : Nat} (W : World) (l : Nat) (o o' : Obj) (h : W.heap[l]? = some o) (hc : o.isCells = false) (hw : o.isWalk = false) : KpW V T B W (W.putObj l o') := by
  have hg := grownBy_putObj' W l o'
  have hr : ∀ r, some l = some r → ∃ o : Obj, W.heap[r]? = some o ∧ o.isCells = false := fun r e => by cases e; exact ⟨o, h, hc⟩
  refine ⟨hg.size, fun p e => (Mod.ofGrown hg).at e (cells_ne hr e), fun li a c e => ⟨li, a, c, List.prefix_refl _, ⟨(Mod.ofGrown hg).at e.box (cells_ne hr e.box), Mine.Own.turned e.own hg hr, e.map.mod (Mod.ofGrown hg) (fun hb => ?_), e.ne, e.neB, e.neT⟩⟩⟩
  cases hb
  obtain ⟨o2, h2, h3⟩ := e.map.isMap
  rw [h] at h2; cases h2
  rw [hw] at h3; cases h3
theorem all1_tb (n l V T B : Nat) (L : List ByteArray) (a : Option Addr) (c : Nat) (J Jx : List (Nat × ByteArray) → World → Prop) (W : World) (hn : L.length ≤ 2 ^ 21)
    (hY : ∀ pre x W1, J pre W1 → pre.length < L.length → YieldAt Fence.wide (n - 1) Try.prog l (encW x) W1 fun e W' =>
      (e = .returned (.bool true) ∧ J (pre ++ [x]) W' ∧ KpW V T B W1 W') ∨ (e = .returned (.bool false) ∧ Jx (pre ++ [x]) W'))
    (hV : W.heap[V]? = some (.cells #[.pointer (some ⟨T, 0, none⟩)] 27 (0, 0))) (hT : TbAt W T a c B L) (h0 : J [] W) :
    CallsIn Fence.wide n Try.prog 32 #[.func (.yield l) #[] #[], .pointer (some ⟨V, 0, none⟩)] W fun e W' => (∃ v, e = .returned v) ∧
      ((∃ ys, ys = itmT L ∧ J ys W') ∨ (∃ pre, pre <+: itmT L ∧ Jx pre W')) := by
  refine callsIn_of_wp Try.func32 rfl trivial ?_ rfl
  simp only [Try.ntmps32, List.size_toArray, List.length_cons, List.length_nil, Nat.reduceAdd, Nat.reduceSub, Array.replicate_succ, Array.replicate_zero, List.push_toArray, List.append_toArray, List.nil_append, List.cons_append]
  have cV : W.cell? ⟨V, 0, none⟩ = some (.pointer (some ⟨T, 0, none⟩)) := cell_at hV rfl
  have hLen := len_tb hT
  have HY := Lib.hid hY; have HV := Lib.hid hV; have HT := Lib.hid hT; have H0 := Lib.hid h0; have HLN := Lib.hid hLen
  clear hY hV hT h0 hLen
  gi_wp2_with fail
  refine (callsIn_wide.2 HLN.out).mono ?_
  rintro e W1 ⟨rfl, hW1⟩
  obtain rfl : W = W1 := hW1
  gi_wp2_with fail
  clear cV
  gi_loopw [3, 6] (fun _ iv wr => ∃ k : Nat, iv = .int .i64 k ∧ k ≤ L.length ∧ Hid (J ((itmT L).take k) wr) ∧ Hid (KpW V T B W wr)) (fun _ iv _ => L.length - (intOf iv).toNat)
  case atStart => exact ⟨0, rfl, Nat.zero_le _, Lib.hid (by simpa using H0.out), Lib.hid (KpW.refl _ _ _ _)⟩
  case round =>
    obtain ⟨k, rfl, hk, hJs, hKp⟩ := hrel
    by_cases hlt : k < L.length
    · obtain ⟨l', a', c', hpre, ht⟩ := hKp.out.tab L a c HT.out
      have hkl : k < l'.length := Nat.lt_of_lt_of_le hlt hpre.length_le
      have c0 := ht.c0
      obtain ⟨b, o, rfl, x0⟩ := str_cell ht.own.rd hkl
      have cV := cell_at (j := 0) (hKp.out.box _ HV.out) rfl
      have he : l'[k] = L[k] := by
        obtain ⟨r, rfl⟩ := hpre
        rw [List.getElem_append_left hlt]
      rw [he] at x0
      obtain ⟨fn, tmps, assign, body, hy0, hRr⟩ := HY.out ((itmT L).take k) (k, L[k]) wr hJs.out (by rw [List.length_take, itmT_len]; omega)
      rw [itmT_take hlt] at hRr
      have HRr := Lib.hid hRr
      unfold encW at hy0
      simp only at hy0
      clear hRr ht hpre he
      generalize L[k] = s at *
      gi_wp2
      refine HRr.out.mono ?_
      rintro e W3 (⟨rfl, hJ3, hk3⟩ | ⟨rfl, hJx3⟩)
      · have HK3 := Lib.hid (KpW.trans hKp.out hk3); have HJ3 := Lib.hid hJ3; clear hk3 hJ3
        gi_wp2
        go_roundw
        case rel => exact ⟨k + 1, by go_num, hlt, HJ3, HK3⟩
        case measure => simp [intOf]; omega
      · gi_wp2
        refine bodyPost_ret (results_none rfl _ _ _) rfl ?_
        exact ⟨⟨_, rfl⟩, .inr ⟨_, List.take_prefix _ _, hJx3⟩⟩
    · obtain rfl : k = L.length := by omega
      gi_wp2
      go_end0
      exact ⟨⟨_, rfl⟩, .inl ⟨itmT L, rfl, by have := hJs.out; rwa [List.take_of_length_le (by simp)] at this⟩⟩
theorem all_stops (n V T B : Nat) (L : List ByteArray) (a : Option Addr) (c : Nat) (w : World) (hn : L.length ≤ 2 ^ 21) (hV : w.heap[V]? = some (.cells #[.pointer (some ⟨T, 0, none⟩)] 27 (0, 0))) (hT : TbAt w T a c B L) :
    SeqStopsK Fence.wide n Try.prog 32 #[.pointer (some ⟨V, 0, none⟩)] encW (KpW V T B) (fun ys => ys = itmT L) (fun pre => pre <+: itmT L) L.length w := by
  intro l J Jx W hW hJ hJx hY h0
  have hM : Mod (fun _ => False) w W := Mod.ofBelow hW
  exact all1_tb n l V T B L a c J Jx W hn hY (hM.at hV id) (hT.mod0 hM) h0
theorem all_stops0 (n V : Nat) (p : Option Addr) (w : World) (hV : w.heap[V]? = some (.cells #[.pointer p] 27 (0, 0)))
    (hL : ∀ W, Mod (fun _ => False) w W → Calls Try.prog 12 #[.pointer p] W fun e w' => e = .returned (.int .i64 0) ∧ W = w') :
    SeqStopsK Fence.wide n Try.prog 32 #[.pointer (some ⟨V, 0, none⟩)] encW (KpR 0) (fun ys => ys = []) (fun pre => False) 0 w := by
  intro l J Jx W hW hJ hJx hY h0
  have hM : Mod (fun _ => False) w W := Mod.ofBelow hW
  show CallsIn Fence.wide n Try.prog 32 #[.func (.yield l) #[] #[], .pointer (some ⟨V, 0, none⟩)] W _
  refine callsIn_of_wp Try.func32 rfl trivial ?_ rfl
  simp only [Try.ntmps32, List.size_toArray, List.length_cons, List.length_nil, Nat.reduceAdd, Nat.reduceSub, Array.replicate_succ, Array.replicate_zero, List.push_toArray, List.append_toArray, List.nil_append, List.cons_append]
  have cV := cell_at (j := 0) (hM.at hV id) rfl
  have HLN := Lib.hid (hL W hM); have H0 := Lib.hid h0
  clear hY hV h0 hL hJ hJx hM hW
  gi_wp2_with fail
  refine (callsIn_wide.2 HLN.out).mono ?_
  rintro e W1 ⟨rfl, hW1⟩
  obtain rfl : W = W1 := hW1
  gi_wp2_with fail
  gi_loopw [3, 6] (fun _ iv wr => iv = .int .i64 0 ∧ wr = W) (fun _ iv _ => 0)
  case atStart => exact ⟨rfl, rfl⟩
  case round =>
    obtain ⟨rfl, rfl⟩ := hrel
    gi_wp2
    go_end0
    exact ⟨⟨_, rfl⟩, .inl ⟨[], rfl, H0.out⟩⟩
end Go.Proofs.Ytcmgeiohcgngeaa
