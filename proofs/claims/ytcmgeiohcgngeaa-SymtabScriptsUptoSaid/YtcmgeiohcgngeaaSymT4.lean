/-
  Rising, walked: slices.SortFunc by the texts.
-/
import Derived.Test.YtcmgeiohcgngeaaSymT1
import Derived.Test.YtcmgeiohcgngeaaSymR
import Derived.Test.YtcmgeiohcgngeaaSymT2
import Derived.Test.YtcmgeiohcgngeaaLaySo
import Derived.Shelf.SlSortCmp.NoneTotal
namespace Go.Proofs.Ytcmgeiohcgngeaa
open Go Go.RowKit Go.Mine Go.Maps Go.Shelf Go.Sort
set_option linter.unusedVariables false
set_option maxHeartbeats 8000000
set_option maxRecDepth 100000

def cmpB (x y : ByteArray) : Int := if tbs x < tbs y then -1 else if tbs y < tbs x then 1 else 0
theorem cmpB_neg {x y : ByteArray} : cmpB x y < 0 ↔ tbs x < tbs y := by
  unfold cmpB
  split
  · rename_i h; exact ⟨fun _ => h, fun _ => by decide⟩
  · rename_i h
    refine ⟨fun h2 => ?_, fun h2 => absurd h2 h⟩
    split at h2 <;> omega
theorem nanB_any (x : ByteArray) (w : World) : Calls Try.prog 44 #[.string x] w fun e w' => e = .returned (.bool false) ∧ w = w' := by
  go_enter Try.func44, Try.ntmps44
  go_wp2
  go_ret
  exact ⟨by simp, rfl⟩
theorem compareB_any (x y : ByteArray) (w : World) : Calls Try.prog 35 #[.string x, .string y] w fun e w' => e = .returned (.int .i64 (cmpB x y)) ∧ w = w' := by
  have h1 : Op.bytesLess x.toList y.toList = decide (tbs x < tbs y) := blt_iff x y
  unfold cmpB
  by_cases hl : tbs x < tbs y
  · rw [decide_eq_true hl] at h1
    rw [if_pos hl]
    clear hl
    go_enter Try.func35, Try.ntmps35
    go_wp2_with (first
      | (go_at_call 44; refine (nanB_any _ _).mono ?_; rintro e w' ⟨rfl, rfl⟩))
    go_ret
    exact ⟨rfl, rfl⟩
  · rw [decide_eq_false hl] at h1
    rw [if_neg hl]
    by_cases hg : tbs y < tbs x
    · have h2 : (x.toList == y.toList) = false := beq_eq_false_iff_ne.2 (fun e => by
        unfold tbs at hg; rw [e] at hg; exact List.lt_irrefl _ hg)
      rw [if_pos hg]
      clear hl hg
      go_enter Try.func35, Try.ntmps35
      go_wp2_with (first
        | (go_at_call 44; refine (nanB_any _ _).mono ?_; rintro e w' ⟨rfl, rfl⟩))
      go_ret
      exact ⟨rfl, rfl⟩
    · obtain rfl : x = y := tbs_inj (List.le_antisymm (List.not_lt.1 hg) (List.not_lt.1 hl))
      have h2 : (x.toList == x.toList) = true := beq_self_eq_true _
      rw [if_neg hg]
      clear hl hg
      go_enter Try.func35, Try.ntmps35
      go_wp2_with (first
        | (go_at_call 44; refine (nanB_any _ _).mono ?_; rintro e w' ⟨rfl, rfl⟩))
      go_ret
      exact ⟨rfl, rfl⟩
theorem mod_sortWorld {α : Type} [Inhabited α] (enc : α → Value) (w : World) (blk off n : Nat) (d : Array α) (os : Array Obj) : Mod (fun b => b = blk) w (sortWorld enc w blk off n d os) := by
  refine ⟨rfl, rfl, rfl, ?_, fun k hk hs => ?_⟩
  · show w.heap.size ≤ (w.heap.modify blk _ ++ os).size
    simp
  · show (w.heap.modify blk _ ++ os)[k]? = _
    rw [Array.getElem?_append_left (by simpa using hk), Array.getElem?_modify, if_neg (fun e => hs e.symm)]
theorem blk_sortWorld {α : Type} [Inhabited α] (enc : α → Value) (w : World) (blk n : Nat) (d : Array α) (os : Array Obj) {cur : Array Value} {e : TypeId} (h : w.heap[blk]? = some (.cells cur e (0, 0))) : (sortWorld enc w blk 0 n d os).heap[blk]? = some (.cells (putCells enc 0 d cur) e (0, 0)) := by
  have hb : blk < w.heap.size := (Array.getElem?_eq_some_iff.1 h).1
  show (w.heap.modify blk _ ++ os)[blk]? = _
  rw [Array.getElem?_append_left (by simpa using hb), Array.getElem?_modify, if_pos rfl, h]
  rfl
/-- places of a list of n texts -/
abbrev Nt (n : Nat) := {i : Nat // i < n}
def encN {n : Nat} (i : Nt n) : Value := .int .i64 (i.1 : Nat)
def cfN (l : List ByteArray) (i j : Nt l.length) : Int := cmpB l[i.1] l[j.1]
theorem ltN (l : List ByteArray) (i j : Nt l.length) : ltOf (cfN l) i j = decide (tbs l[i.1] < tbs l[j.1]) := by
  unfold ltOf cfN
  by_cases h : tbs l[i.1] < tbs l[j.1]
  · rw [decide_eq_true h, decide_eq_true (cmpB_neg.2 h)]
  · rw [decide_eq_false h, decide_eq_false (fun h2 => h (cmpB_neg.1 h2))]
theorem swoN (l : List ByteArray) : SWO (ltOf (cfN l)) where
  irrefl x := by rw [ltN]; simp
  trans x y z h1 h2 := by rw [ltN] at *; simp only [decide_eq_true_eq] at *; exact List.lt_trans h1 h2
  ntrans x y z h1 h2 := by rw [ltN] at *; simp only [decide_eq_false_iff_not] at *; exact List.not_lt.2 (List.le_trans (List.not_lt.1 h2) (List.not_lt.1 h1))
theorem rise1_any {T : Nat} {a : Option Addr} {c B : Nat} {l : List ByteArray} {w : World} (h : TbAt w T a c B l) (bx : Nat) (hb : w.cell? ⟨bx, 0, none⟩ = some (.pointer (some ⟨T, 0, none⟩))) (i j : Nat) (hi : i < l.length) (hj : j < l.length) :
    Calls Try.prog 34 #[.int .i64 i, .int .i64 j, .pointer (some ⟨bx, 0, none⟩)] w fun e w' => e = .returned (.int .i64 (cmpB l[i] l[j])) ∧ ∃ q, w' = w.drewN q := by
  have c0 := h.c0
  obtain ⟨b, o, rfl, x0⟩ := str_cell h.own.rd hi
  obtain ⟨b', o', e', y0⟩ := str_cell h.own.rd hj
  cases e'
  clear h
  have HC := fun W => compareB_any l[i] l[j] W
  generalize l[i] = x at *
  generalize l[j] = y at *
  generalize cmpB x y = z at *
  have HC := Lib.hid HC
  go_enter Try.func34, Try.ntmps34
  go_wp2_with fail
  refine wp_region_ord (fun w' => w'.cell? ⟨bx, 0, none⟩ = some (.pointer (some ⟨T, 0, none⟩)) ∧ w'.cell? ⟨T, 0, none⟩ = some (.slice (some ⟨b, o, none⟩) l.length c) ∧ w'.cell? ⟨b, o + i, none⟩ = some (.string x) ∧ w'.cell? ⟨b, o + j, none⟩ = some (.string y)) [(1, 0), (0, 1), (0, 2), (1, 3), (0, 4), (0, 5), (1, 6), (1, 7), (0, 8), (0, 9), (1, 10), (0, 11), (0, 12), (1, 13), (3, 14), (0, 15)] (by kernel_rfl) (by kernel_rfl) ?_
  go_wp2_with (first
    | (refine ord_pure rfl rfl rfl (fun K hK => ?_); go_big_quiet_op; refine hK _ ?_; clear hK K)
                                                                | (refine ord_skip rfl rfl ?_; simp only [Act.put, List.setIfInBounds_toArray, List.set_cons_zero, List.set_cons_succ])
                                                                | (refine ord_held rfl rfl rfl (⟨hb, c0, x0, y0⟩) (fun K hK => ?_); apply Exists.intro; refine ⟨fun w' hs => ?_, hK _ ?_⟩; (revert hs; dsimp only; (try simp only [and_imp]); intros; go_simp; rfl); clear hK K)
                                                                | (refine ord_keep rfl rfl (⟨hb, c0, x0, y0⟩) (fun K hK => ?_))
                                                                | (refine ord_drop rfl rfl (fun K hK => ?_))
                                                                | (refine ord_nil ?_)
    | (go_at_call 35; refine (HC.out _).mono ?_; rintro e w' ⟨rfl, rfl⟩; refine hK _ _ ?_; clear hK K))
  go_ret
  exact ⟨rfl, 1, rfl⟩
theorem extract_all {α : Type} (d : Array α) {n : Nat} (h : d.size = n) : d.extract 0 n = d := by subst h; exact Array.extract_size
/-- make([]int, n) -/
theorem mkInts (n : Nat) (w : World) (hn : n ≤ 2 ^ 40) : ∃ cur : Array Value, cur.size = n ∧ (Instr.makeSlice 39 (.int .i64 n) (.int .i64 n)).run Try.prog w = .ok (.slice (some ⟨w.heap.size, 0, none⟩) n n) (w.alloc (.cells cur 3)) := by
  obtain ⟨i, z, hi, hz, h1, h2, hzs⟩ := tiI.ex
  have hr := run_make w 39 3 i z tiI.ht hi hz .i64 .i64 n n (by omega) (Int.le_refl _) (by rw [h2]; omega) (by omega)
  simp only [Int.toNat_natCast] at hr
  exact ⟨_, by rw [size_madeCells, h1]; omega, hr⟩
theorem putCells_all {α : Type} [Inhabited α] (enc : α → Value) (d : Array α) (cur : Array Value) (h : cur.size = d.size) : putCells enc 0 d cur = (d.toList.map enc).toArray := by
  refine Array.ext ?_ fun k h1 h2 => ?_
  · simp [putCells, h]
  · have hk : k < d.size := by simpa [putCells, h] using h1
    simp only [putCells, Array.getElem_mapIdx, Nat.zero_le, true_and, Nat.zero_add, Nat.sub_zero, if_pos hk, List.getElem_toArray, List.getElem_map, Array.getElem_toList]
    rw [getElem!_pos d k hk]
theorem sortTb_any {T bx blk' cap : Nat} {a : Option Addr} {c B : Nat} {l : List ByteArray} {W : World} (h : TbAt W T a c B l) (hn : l.Nodup) (hl : l.length < 2 ^ 40) (h0 : 0 < l.length) (hb : W.cell? ⟨bx, 0, none⟩ = some (.pointer (some ⟨T, 0, none⟩)))
    (hg : W.heap[blk']? = some (.cells (nums (List.range l.length)).toArray 3 (0, 0))) (n1 : blk' ≠ T) (n2 : blk a ≠ some blk') (n3 : blk' ≠ B) (n4 : blk' ≠ bx) :
    Calls Try.prog 33 #[.slice (some ⟨blk', 0, none⟩) l.length cap, .func (.func 34) #[] #[.pointer (some ⟨bx, 0, none⟩)]] W fun e w' =>
      e = .returned (.tuple #[]) ∧ w'.heap[blk']? = some (.cells (nums (riseL l)).toArray 3 (0, 0)) ∧ Mod (fun b => b = blk') W w' := by
  haveI : Inhabited (Nt l.length) := ⟨⟨0, h0⟩⟩
  obtain ⟨d, hd⟩ : ∃ d : Array (Nt l.length), d = Array.ofFn (fun i : Fin l.length => (⟨i.1, i.2⟩ : Nt l.length)) := ⟨_, rfl⟩
  have hds : d.size = l.length := by rw [hd]; simp
  have hdl : d.toList.map (fun i : Nt l.length => i.1) = List.range l.length := by
    refine List.ext_getElem (by simp [hds]) fun k h1 h2 => ?_
    simp [hd]
  have eg : ∀ args w, (callFunc 34 args).run Try.prog w = .ok (.enter 34 args) w := enters_of Try.func34 (by kernel_rfl) rfl
  have hcmp : CmpReads Try.prog 34 #[.pointer (some ⟨bx, 0, none⟩)] encN (cfN l) blk' 0 d.size W := fun m os dk hs x y => by
    have mm := mod_sortWorld (encN (n := l.length)) W blk' 0 m dk os
    exact rise1_any (h.mod mm (fun e => n1 e.symm) (fun b hb e => n2 (by rw [hb, e])) (fun e => n3 e.symm)) bx (mm.cell hb (fun e => n4 e.symm)) x.1 y.1 x.2 y.2
  have hH : Holds (encN (n := l.length)) W blk' 0 d := fun j hj => by
    refine ⟨?_, frozen_at hg⟩
    rw [Nat.zero_add]
    refine cell_at hg ?_
    rw [getElem!_pos d j hj]
    have hj2 : j < l.length := by omega
    simp [nums, hj2, encN, hd]
  have hcon := Any.slices_SortFunc sortFz encN (fun _ => rfl) (cfN l) (swoN l) 34 #[.pointer (some ⟨bx, 0, none⟩)] blk' 0 cap d W eg hcmp.lays hH (Array.getElem?_eq_some_iff.1 hg).1 (by omega)
  change Calls Try.prog 33 _ _ _ at hcon
  rw [hds] at hcon
  refine hcon.mono ?_
  rintro e w' ⟨rfl, d', n, os, ⟨hp1, hp2, hp3⟩, hs, rfl⟩
  have hds' : d'.size = l.length := by rw [hp1, hds]
  have hperm : (d'.toList.map fun i : Nt l.length => i.1).Perm (List.range l.length) := by
    rw [← hdl]
    refine List.Perm.map _ ?_
    rw [extract_all d' hds', extract_all d hds] at hp3
    exact hp3
  have hsort : (d'.toList.map fun i : Nt l.length => i.1).Pairwise fun i j => ∀ x y, l[i]? = some x → l[j]? = some y → ¬ tbs y < tbs x := by
    rw [List.pairwise_map, List.pairwise_iff_getElem]
    intro i j hi hj hij x y hx hy hlt
    rw [Array.length_toList] at hi hj
    have h1 := hs i j (Nat.zero_le _) hij (by omega)
    rw [getElem!_pos d' j hj, getElem!_pos d' i hi, ltN, decide_eq_false_iff_not] at h1
    rw [Array.getElem_toList] at hx hy
    rw [List.getElem?_eq_getElem (d'[i]).2] at hx
    rw [List.getElem?_eq_getElem (d'[j]).2] at hy
    cases hx; cases hy
    exact h1 hlt
  have hR := (rise_sorted hn hperm hsort).uniq hn (riseL_is hn)
  refine ⟨rfl, ?_, mod_sortWorld _ _ _ _ _ _ _⟩
  rw [blk_sortWorld encN W blk' n d' os hg, putCells_all _ _ _ (by simp [hds'])]
  have e3 : d'.toList.map (encN (n := l.length)) = nums (riseL l) := by
    rw [← hR]
    unfold nums
    rw [List.map_map]
    rfl
  rw [e3]
theorem rising_nil (w : World) : Calls Try.prog 13 #[.pointer none] w fun e w' => e = .returned (.slice none 0 0) ∧ Mod (fun _ => False) w w' := by
  have m0 : Mod (fun _ => False) w (w.alloc (.cells #[.pointer none] 27)) := (Mod.refl _ w).alloc _
  go_enter Try.func13, Try.ntmps13
  go_wp2_with (go_at_call 28; refine (none_nil _).mono ?_; rintro e w' ⟨rfl, rfl⟩)
  go_ret
  exact ⟨rfl, m0⟩
theorem rising_zero (T : Nat) (v : Value) (w : World) (h : w.cell? ⟨T, 1, none⟩ = some (.map none)) : Calls Try.prog 13 #[.pointer (some ⟨T, 0, none⟩)] w fun e w' => e = .returned (.slice none 0 0) ∧ Mod (fun _ => False) w w' := by
  have m0 : Mod (fun _ => False) w (w.alloc (.cells #[.pointer (some ⟨T, 0, none⟩)] 27)) := (Mod.refl _ w).alloc _
  have HN := Lib.hid (none_zero T v _ (m0.cell h id))
  clear h
  go_enter Try.func13, Try.ntmps13
  go_wp2_with (go_at_call 28; refine HN.out.mono ?_; rintro e w' ⟨rfl, rfl⟩)
  go_ret
  exact ⟨rfl, m0⟩
theorem rising_tb {T : Nat} {a : Option Addr} {c B : Nat} {l : List ByteArray} {w : World} (h : TbAt w T a c B l) (hn : l.Nodup) (hl : l.length ≤ 2 ^ 20) : Calls Try.prog 13 #[.pointer (some ⟨T, 0, none⟩)] w fun e w' =>
    ∃ oa oc, e = .returned (.slice oa l.length oc) ∧ Mine.Own w' 3 1 oa l.length oc (nums (riseL l)) ∧ (∀ b, blk oa = some b → w.heap.size ≤ b) ∧ Mod (fun _ => False) w w' := by
  have m0 : Mod (fun _ => False) w (w.alloc (.cells #[.pointer (some ⟨T, 0, none⟩)] 27)) := (Mod.refl _ w).alloc _
  have hb0 := heap_alloc_new w (.cells #[.pointer (some ⟨T, 0, none⟩)] 27)
  have h1 := h.mod0 m0
  have HN := Lib.hid (none_tb h1)
  have c0 := h1.c0
  have cb : (w.alloc (.cells #[.pointer (some ⟨T, 0, none⟩)] 27)).cell? ⟨w.heap.size, 0, none⟩ = some (.pointer (some ⟨T, 0, none⟩)) := cell_at hb0 rfl
  have H := Lib.hid h1; have HB := Lib.hid hb0; have HM := Lib.hid m0; have HND := Lib.hid hn
  have HLT := Lib.hid (And.intro h.ltT (And.intro h.own.lt h.map.lt))
  clear h h1 m0 hb0 hn
  obtain ⟨w1, hw1⟩ : ∃ v, v = w.alloc (.cells #[.pointer (some ⟨T, 0, none⟩)] 27) := ⟨_, rfl⟩
  have hz1 : w1.heap.size = w.heap.size + 1 := by rw [hw1, World.size_alloc]
  rw [← hw1] at H HB HM HN c0 cb
  have HW1 := Lib.hid hw1
  obtain ⟨cur, hcs, hmk⟩ := mkInts l.length w1 (by omega)
  have HCS := Lib.hid hcs; have HZ1 := Lib.hid hz1
  rw [hw1] at HN c0 cb hmk
  clear hw1 hcs hz1
  go_enter Try.func13, Try.ntmps13
  go_wp2_with (go_at_call 28; refine HN.out.mono ?_; rintro e w' ⟨rfl, rfl⟩)
  rw [← HW1.out] at c0 cb ⊢
  clear hmk HN HW1
  rw [← HZ1.out]
  obtain ⟨bk, hbk⟩ : ∃ b, b = w1.heap.size := ⟨_, rfl⟩
  rw [← hbk]
  have HBK := Lib.hid hbk
  clear hbk
  have m2 : Mod (fun _ => False) w1 (w1.alloc (.cells cur 3)) := (Mod.refl _ w1).alloc _
  have hc2 : (w1.alloc (.cells cur 3)).heap[bk]? = some (.cells cur 3 (0, 0)) := by rw [HBK.out]; exact heap_alloc_new w1 _
  obtain ⟨w2, hw2⟩ : ∃ v, v = w1.alloc (.cells cur 3) := ⟨_, rfl⟩
  rw [← hw2] at m2 hc2 ⊢
  have HM2 := Lib.hid m2
  have HC2 : Hid (∃ xs : List Value, xs.length = l.length ∧ w2.heap[bk]? = some (.cells xs.toArray 3 (0, 0)) ∧ xs.take 0 = nums (List.range 0)) := Lib.hid ⟨cur.toList, by rw [Array.length_toList]; exact HCS.out, by simpa using hc2, by simp [nums]⟩
  clear hw2 m2 hc2 c0 cb HCS
  go_loopw [4, 15] (fun _ iv wr => ∃ k : Nat, iv = .int .i64 k ∧ k ≤ l.length ∧ Hid (∃ xs : List Value, xs.length = l.length ∧ wr.heap[bk]? = some (.cells xs.toArray 3 (0, 0)) ∧ xs.take k = nums (List.range k)) ∧ Hid (Mod (fun b => b = bk) w2 wr)) (fun _ iv _ => l.length - (intOf iv).toNat)
  case atStart => exact ⟨0, rfl, Nat.zero_le _, HC2, Lib.hid (Mod.refl _ _)⟩
  case round =>
    obtain ⟨k, rfl, hk, hc, hM⟩ := hrel
    by_cases hlt : k < l.length
    · obtain ⟨xs, hxl, hxc, hxt⟩ := hc.out
      obtain ⟨u0, x0⟩ : ∃ u, wr.cell? ⟨bk, k, none⟩ = some u := ⟨_, cell_at hxc (by simp [hxl, hlt]; rfl)⟩
      have f0 : wr.frozen? ⟨bk, k, none⟩ = false := frozen_at hxc
      have hs := heap_setCell_at (j := k) (.int .i64 (k : Nat)) hxc
      have HS : Hid (∃ ys : List Value, ys.length = l.length ∧ (wr.setCell ⟨bk, k, none⟩ (.int .i64 (k : Nat))).heap[bk]? = some (.cells ys.toArray 3 (0, 0)) ∧ ys.take (k + 1) = nums (List.range (k + 1))) := by
        refine Lib.hid ⟨xs.set k (.int .i64 (k : Nat)), by simp [hxl], by simpa using hs, ?_⟩
        rw [List.take_succ_eq_append_getElem (by simp [hxl, hlt]), List.take_set_of_le (Nat.le_refl _), hxt, List.getElem_set_self, List.range_succ]
        unfold nums
        rw [List.map_append]
        rfl
      have HMS : Hid (Mod (fun b => b = bk) w2 (wr.setCell ⟨bk, k, none⟩ (.int .i64 (k : Nat)))) := Lib.hid (hM.out.setCell (p := ⟨bk, k, none⟩) (fun _ => rfl) _)
      clear hxt hxc hxl hs hc hM
      go_wp2_with fail
      go_roundw
      case rel => exact ⟨k + 1, by go_num, hlt, HS, HMS⟩
      case measure => simp [intOf]; omega
    · obtain rfl : k = l.length := by omega
      have hmm : Mod (fun _ => False) w1 wr := HM2.out.step hM.out (fun i hi e => by have := HBK.out; omega)
      have hT := H.out.mod0 hmm
      have hbx := cell_at (j := 0) (hmm.at HB.out id) rfl
      obtain ⟨xs, hxl, hxc, hxt⟩ := hc.out
      rw [List.take_of_length_le (by omega)] at hxt
      subst hxt
      obtain ⟨q1, q2, q3⟩ := HLT.out
      have hz := HZ1.out; have hk1 := HBK.out
      have HMM := Lib.hid (HM.out.trans hmm)
      have hsort : Calls Try.prog 33 #[.slice (some ⟨bk, 0, none⟩) l.length l.length, .func (.func 34) #[] #[.pointer (some ⟨w.heap.size, 0, none⟩)]] wr fun e w' =>
          e = .returned (.tuple #[]) ∧ w'.heap[bk]? = some (.cells (nums (riseL l)).toArray 3 (0, 0)) ∧ Mod (fun b => b = bk) wr w' := by
        by_cases h0 : 0 < l.length
        · exact sortTb_any hT HND.out (by omega) h0 hbx hxc (by omega) (fun e => by have := q2 _ e; omega) (by omega) (by omega)
        · have e0 : l.length = 0 := by omega
          have hl0 : l = [] := List.eq_nil_of_length_eq_zero e0
          have hr0 : riseL l = [] := List.eq_nil_of_length_eq_zero (by rw [(riseL_is HND.out).len]; exact e0)
          have hcon := AnyF.slices_SortFunc_none { sortFz with } (some ⟨bk, 0, none⟩) l.length (.func (.func 34) #[] #[.pointer (some ⟨w.heap.size, 0, none⟩)]) wr
          change Calls Try.prog 33 _ _ _ at hcon
          rw [e0]
          rw [e0] at hcon hxc
          refine hcon.mono ?_
          rintro e w' ⟨rfl, rfl⟩
          exact ⟨rfl, by rw [hr0]; exact hxc, Mod.refl _ _⟩
      have HSO := Lib.hid hsort
      have HLEN := Lib.hid (riseL_is HND.out).len
      clear hsort hT hbx hxc hmm hxl hc hM q1 q2 q3 hz hk1
      go_wp2_with fail
      refine HSO.out.mono ?_
      rintro e w9 ⟨rfl, h9, hM9⟩
      have H9 := Lib.hid h9; have HM9 := Lib.hid hM9
      clear h9 hM9
      go_wp2_with fail
      go_ret
      refine ⟨_, _, rfl, ⟨by rw [nums_length, HLEN.out]; omega, .inr ⟨bk, _, rfl, H9.out, Nat.le_refl _, by unfold maxLen; omega, by simp [HLEN.out], ?_⟩⟩, fun b hb => by
        have hb : blk (some (⟨bk, 0, none⟩ : Addr)) = some b := hb
        have := HZ1.out; have := HBK.out
        have hb2 : bk = b := by simpa using hb
        omega, HMM.out.step HM9.out (fun i hi e => by have := HZ1.out; have := HBK.out; omega)⟩
      rw [List.take_of_length_le (by simp [HLEN.out])]
end Go.Proofs.Ytcmgeiohcgngeaa
