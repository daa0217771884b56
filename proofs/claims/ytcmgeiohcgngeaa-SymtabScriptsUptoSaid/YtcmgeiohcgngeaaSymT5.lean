/-
  Ranks, walked; the document's Ranks and Rising.
-/
import Derived.Test.YtcmgeiohcgngeaaSymT4
namespace Go.Proofs.Ytcmgeiohcgngeaa
open Go Go.RowKit Go.Mine Go.Maps
set_option linter.unusedVariables false
set_option maxHeartbeats 8000000
set_option maxRecDepth 100000

theorem own_cells {w : World} {bk n : Nat} {xs us : List Value} (h : w.heap[bk]? = some (.cells xs.toArray 3 (0, 0))) (hl : xs.length = n) (hn : n < 2 ^ 40) (e : xs = us) : Mine.Own w 3 1 (some ⟨bk, 0, none⟩) n n us := by
  subst e
  refine ⟨by omega, .inr ⟨bk, _, rfl, h, Nat.le_refl _, by unfold maxLen; omega, by simp [hl], ?_⟩⟩
  rw [List.take_of_length_le (by simp [hl])]
theorem riseL_get {l : List ByteArray} (hn : l.Nodup) {i : Nat} (hi : i < l.length) : (riseL l)[rkT l l[i]]? = some i := by
  have hr := rkT_lt (List.getElem_mem hi)
  have h1 : (riseL l)[rkT l l[i]]? = some ((riseL l)[rkT l l[i]]'(by rw [(riseL_is hn).len]; exact hr)) := List.getElem?_eq_getElem _
  obtain ⟨x, hx, hrx⟩ := (riseL_is hn).at_ _ _ h1
  have e := rkT_inj (List.mem_of_getElem? hx) (List.getElem_mem hi) hrx
  rw [e] at hx
  rw [h1, idx_inj hn hx (List.getElem?_eq_getElem hi)]
theorem rk_fill {l : List ByteArray} (hn : l.Nodup) {xs : List Value} (hl : xs.length = l.length) (h : ∀ q i, q < l.length → (riseL l)[q]? = some i → xs[i]? = some (.int .i64 (q : Nat))) : xs = nums (rkL l) := by
  refine List.ext_getElem? fun i => ?_
  by_cases hi : i < l.length
  · rw [h _ i (rkT_lt (List.getElem_mem hi)) (riseL_get hn hi)]
    simp [nums, rkL, hi]
  · rw [List.getElem?_eq_none (by omega), List.getElem?_eq_none (by simp; omega)]
theorem rise_fill {l : List ByteArray} (hn : l.Nodup) {xs : List Value} (hl : xs.length = l.length) (h : ∀ i (hi : i < l.length), xs[rkT l l[i]]? = some (.int .i64 (i : Nat))) : xs = nums (riseL l) := by
  refine List.ext_getElem? fun p => ?_
  by_cases hp : p < l.length
  · have h1 : (riseL l)[p]? = some ((riseL l)[p]'(by rw [(riseL_is hn).len]; exact hp)) := List.getElem?_eq_getElem _
    obtain ⟨x, hx, hrx⟩ := (riseL_is hn).at_ _ _ h1
    obtain ⟨hil, e⟩ := List.getElem?_eq_some_iff.1 hx
    have h2 := h _ hil
    rw [e, hrx] at h2
    rw [h2]
    unfold nums
    rw [List.getElem?_map, h1]
    rfl
  · rw [List.getElem?_eq_none (by omega), List.getElem?_eq_none (by rw [nums_length, (riseL_is hn).len]; omega)]
theorem int_cell {w : World} {a : Option Addr} {n c : Nat} {l : List Nat} (h : Mine.Own w 3 1 a n c (nums l)) {i v : Nat} (hi : l[i]? = some v) : ∃ b, a = some ⟨b, 0, none⟩ ∧ w.cell? ⟨b, i, none⟩ = some (.int .i64 (v : Nat)) := by
  have hl := h.1
  rw [nums_length] at hl
  have hil := (List.getElem?_eq_some_iff.1 hi).1
  obtain ⟨b, rfl⟩ := h.atHead (by omega)
  obtain ⟨b', o, e, hc⟩ := h.rd i (.int .i64 (v : Nat)) (by unfold nums; rw [List.getElem?_map, hi]; rfl)
  cases e
  rw [Nat.zero_add] at hc
  exact ⟨b, rfl, hc⟩
/-- the round's store -/
theorem fill_step {wr : World} {bk i v n : Nat} {xs : List Value} (h : wr.heap[bk]? = some (.cells xs.toArray 3 (0, 0))) (hl : xs.length = n) (hi : i < n) :
    (∃ u, wr.cell? ⟨bk, i, none⟩ = some u) ∧ wr.frozen? ⟨bk, i, none⟩ = false ∧ (wr.setCell ⟨bk, i, none⟩ (.int .i64 (v : Nat))).heap[bk]? = some (.cells (xs.set i (.int .i64 (v : Nat))).toArray 3 (0, 0)) := by
  refine ⟨⟨_, cell_at h (by simp [hl, hi]; rfl)⟩, frozen_at h, ?_⟩
  have := heap_setCell_at (j := i) (.int .i64 (v : Nat)) h
  simpa using this
def SliPost (l : List Nat) (w : World) (e : Ending) (w' : World) : Prop :=
  ∃ oa oc, e = .returned (.slice oa l.length oc) ∧ Mine.Own w' 3 1 oa l.length oc (nums l) ∧ (∀ b, blk oa = some b → w.heap.size ≤ b) ∧ Mod (fun _ => False) w w'
theorem ranks_tb {T : Nat} {a : Option Addr} {c B : Nat} {l : List ByteArray} {w : World} (h : TbAt w T a c B l) (hn : l.Nodup) (hl : l.length ≤ 2 ^ 20) : Calls Try.prog 14 #[.pointer (some ⟨T, 0, none⟩)] w (SliPost (rkL l) w) := by
  have HN := Lib.hid (len_tb h)
  obtain ⟨cur, hcs, hmk⟩ := mkInts l.length w (by omega)
  have HCS := Lib.hid hcs; have H := Lib.hid h; have HND := Lib.hid hn
  clear h hcs hn
  go_enter Try.func14, Try.ntmps14
  go_wp2_with (go_at_call 12; refine HN.out.mono ?_; rintro e w' ⟨rfl, rfl⟩)
  clear hmk HN
  obtain ⟨bk, hbk⟩ : ∃ b, b = w.heap.size := ⟨_, rfl⟩
  rw [← hbk]
  have HBK := Lib.hid hbk
  clear hbk
  have m2 : Mod (fun _ => False) w (w.alloc (.cells cur 3)) := (Mod.refl _ w).alloc _
  have hc2 : (w.alloc (.cells cur 3)).heap[bk]? = some (.cells cur 3 (0, 0)) := by rw [HBK.out]; exact heap_alloc_new w _
  obtain ⟨w2, hw2⟩ : ∃ v, v = w.alloc (.cells cur 3) := ⟨_, rfl⟩
  rw [← hw2] at m2 hc2 ⊢
  clear hw2
  refine (rising_tb (H.out.mod0 m2) HND.out hl).mono ?_
  rintro e w3 ⟨ra, rc, rfl, hO, hfr, hM3⟩
  have hRl := (riseL_is HND.out).len
  have HRL := Lib.hid hRl
  have HC3 : Hid (∃ xs : List Value, xs.length = l.length ∧ w3.heap[bk]? = some (.cells xs.toArray 3 (0, 0)) ∧ ∀ q i, q < 0 → (riseL l)[q]? = some i → xs[i]? = some (.int .i64 (q : Nat))) :=
    Lib.hid ⟨cur.toList, by rw [Array.length_toList]; exact HCS.out, by simpa using hM3.at hc2 id, fun q i h => by omega⟩
  have hbs : bk < w2.heap.size := (Array.getElem?_eq_some_iff.1 hc2).1
  have HO := Lib.hid hO; have HFR : Hid (∀ b, blk ra = some b → b ≠ bk) := Lib.hid (fun b hb => by have := hfr b hb; omega)
  have HM3 := Lib.hid (m2.trans hM3)
  clear hO hfr hM3 m2 hc2 hbs hRl HCS
  go_wp2_with fail
  go_loopw [4, 5, 12] (fun _ _ iv wr => ∃ k : Nat, iv = .int .i64 k ∧ k ≤ l.length ∧ Hid (∃ xs : List Value, xs.length = l.length ∧ wr.heap[bk]? = some (.cells xs.toArray 3 (0, 0)) ∧ ∀ q i, q < k → (riseL l)[q]? = some i → xs[i]? = some (.int .i64 (q : Nat))) ∧ Hid (Mod (fun b => b = bk) w3 wr)) (fun _ _ iv _ => l.length - (intOf iv).toNat)
  case atStart => exact ⟨0, rfl, Nat.zero_le _, HC3, Lib.hid (Mod.refl _ _)⟩
  case round =>
    obtain ⟨k, rfl, hk, hc, hM⟩ := hrel
    by_cases hlt : k < l.length
    · obtain ⟨xs, hxl, hxc, hxt⟩ := hc.out
      have hg : (riseL l)[k]? = some ((riseL l)[k]'(by rw [HRL.out]; exact hlt)) := List.getElem?_eq_getElem _
      have hil : (riseL l)[k]'(by rw [HRL.out]; exact hlt) < l.length := List.mem_range.1 ((riseL_perm HND.out).mem_iff.1 (List.getElem_mem _))
      obtain ⟨i, hi⟩ : ∃ i, i = (riseL l)[k]'(by rw [HRL.out]; exact hlt) := ⟨_, rfl⟩
      rw [← hi] at hg hil
      clear hi
      obtain ⟨rb, rfl, x0⟩ := int_cell (HO.out.mod hM.out (fun b hb e => HFR.out b hb e)) hg
      obtain ⟨⟨u0, y0⟩, f0, hs⟩ := fill_step (v := k) hxc hxl hil
      have HS : Hid (∃ ys : List Value, ys.length = l.length ∧ (wr.setCell ⟨bk, i, none⟩ (.int .i64 (k : Nat))).heap[bk]? = some (.cells ys.toArray 3 (0, 0)) ∧ ∀ q j, q < k + 1 → (riseL l)[q]? = some j → ys[j]? = some (.int .i64 (q : Nat))) := by
        refine Lib.hid ⟨_, by rw [List.length_set]; exact hxl, hs, fun q j hq hj => ?_⟩
        rw [List.getElem?_set]
        by_cases hij : i = j
        · subst hij
          rw [if_pos rfl, if_pos (by omega)]
          have e1 := (riseL_is HND.out).at_ _ _ hg
          have e2 := (riseL_is HND.out).at_ _ _ hj
          obtain ⟨x1, hx1, hr1⟩ := e1
          obtain ⟨x2, hx2, hr2⟩ := e2
          rw [hx1] at hx2
          cases hx2
          rw [← hr1, hr2]
        · rw [if_neg hij]
          rcases Nat.lt_succ_iff_lt_or_eq.1 hq with h | rfl
          · exact hxt q j h hj
          · rw [hg] at hj; cases hj; exact absurd rfl hij
      have HMS : Hid (Mod (fun b => b = bk) w3 (wr.setCell ⟨bk, i, none⟩ (.int .i64 (k : Nat)))) := Lib.hid (hM.out.setCell (p := ⟨bk, i, none⟩) (fun _ => rfl) _)
      clear hxt hxc hxl hs hc hM hg
      go_wp2_with fail
      go_roundw
      case rel => exact ⟨k + 1, by go_num, hlt, HS, HMS⟩
      case measure => simp [intOf]; omega
    · obtain rfl : k = l.length := by omega
      obtain ⟨xs, hxl, hxc, hxt⟩ := hc.out
      have HO2 := Lib.hid (own_cells hxc hxl (by omega) (rk_fill HND.out hxl hxt))
      clear hxl hxc hxt hc
      go_wp2_with fail
      go_ret
      refine ⟨some ⟨bk, 0, none⟩, l.length, by rw [rkL_len]; rfl, by rw [rkL_len]; exact HO2.out, fun b hb => ?_, HM3.out.step hM.out (fun i hi e => by have := HBK.out; omega)⟩
      have hb2 : bk = b := by simpa using hb
      have := HBK.out
      omega
theorem ranks_none {tv : Value} {w : World} (h1 : Calls Try.prog 12 #[tv] w fun e w' => e = .returned (.int .i64 0) ∧ w = w')
    (h2 : ∀ W, Mod (fun _ => False) w W → Calls Try.prog 13 #[tv] W fun e w' => e = .returned (.slice none 0 0) ∧ Mod (fun _ => False) W w') : Calls Try.prog 14 #[tv] w (SliPost [] w) := by
  obtain ⟨cur, hcs, hmk⟩ := mkInts 0 w (by omega)
  obtain rfl : cur = #[] := Array.eq_empty_of_size_eq_zero hcs
  have HN := Lib.hid h1; have HR := Lib.hid h2
  have hmk' : (Instr.makeSlice 39 (.int .i64 0) (.int .i64 0)).run Try.prog w = .ok (.slice (some ⟨w.heap.size, 0, none⟩) 0 0) (w.alloc (.cells #[] 3)) := hmk
  have m2 : Mod (fun _ => False) w (w.alloc (.cells #[] 3)) := (Mod.refl _ w).alloc _
  have HB := Lib.hid (heap_alloc_new w (.cells #[] 3))
  have HM := Lib.hid m2
  clear h1 h2 hcs hmk m2
  go_enter Try.func14, Try.ntmps14
  go_wp2_with (go_at_call 12; refine HN.out.mono ?_; rintro e w' ⟨rfl, rfl⟩)
  refine (HR.out _ HM.out).mono ?_
  rintro e w3 ⟨rfl, hM3⟩
  have HM3 := Lib.hid hM3
  clear hmk' hM3
  go_wp2_with fail
  go_loopw [4, 5, 12] (fun _ _ iv wr => iv = .int .i64 0 ∧ wr = w3) (fun _ _ iv _ => 0)
  case atStart => exact ⟨rfl, rfl⟩
  case round =>
    obtain ⟨rfl, rfl⟩ := hrel
    go_wp2_with fail
    go_ret
    refine ⟨some ⟨w.heap.size, 0, none⟩, 0, rfl, ⟨rfl, .inr ⟨w.heap.size, #[], rfl, HM3.out.at HB.out id, Nat.le_refl _, by unfold maxLen; omega, rfl, rfl⟩⟩, fun b hb => ?_, HM.out.trans HM3.out⟩
    have hb2 : w.heap.size = b := by simpa using hb
    omega
theorem ranks_nil (w : World) : Calls Try.prog 14 #[.pointer none] w (SliPost [] w) := ranks_none (len_nil w) (fun W _ => rising_nil W)
theorem ranks_zero (T : Nat) (v : Value) (w : World) (h : w.cell? ⟨T, 1, none⟩ = some (.map none)) : Calls Try.prog 14 #[.pointer (some ⟨T, 0, none⟩)] w (SliPost [] w) :=
  ranks_none (len_zero T v w h) (fun W m => rising_zero T v W (m.cell h id))
theorem sliNil {w : World} {e : Ending} {w' : World} (h : e = .returned (.slice none 0 0)) (m : Mod (fun _ => False) w w') : SliPost [] w e w' :=
  ⟨none, 0, h, Mine.Own.nil _ _ _, (fun b hb => by cases hb), m⟩
theorem rranks_nil (w : World) : Calls Try.prog 25 #[.pointer none] w (SliPost [] w) := by
  go_enter Try.func25, Try.ntmps25
  go_wp2_with fail
  go_loopw [3, 4, 5, 6] (fun ov iv _ _ wr => iv = .int .i64 0 ∧ ov = .slice none 0 0 ∧ wr = w) (fun _ iv _ _ _ => 0)
  case atStart => exact ⟨rfl, rfl, rfl⟩
  case round =>
    obtain ⟨rfl, rfl, rfl⟩ := hrel
    go_wp2_with (go_at_call 27; refine (rlen_nil _).mono ?_; rintro e w' ⟨rfl, rfl⟩)
    go_ret
    exact sliNil rfl (Mod.refl _ _)
theorem rranks_tb {M : Nat} {a : Option Addr} {c : Nat} {l : List ByteArray} {w : World} (h : RbAt w M a c l) (hl : l.length ≤ 2 ^ 20) : Calls Try.prog 25 #[.pointer (some ⟨M, 0, none⟩)] w (SliPost (rkL l) w) := by
  have H := Lib.hid h
  clear h
  go_enter Try.func25, Try.ntmps25
  go_wp2_with fail
  go_loopw [3, 4, 5, 6] (fun ov iv _ _ wr => ∃ (i : Nat) (oa : Option Addr) (oc : Nat), iv = .int .i64 i ∧ i ≤ l.length ∧ ov = .slice oa i oc ∧ Hid (Mine.Own wr 3 1 oa i oc (nums ((rkL l).take i))) ∧ Hid (∀ b, blk oa = some b → w.heap.size ≤ b) ∧ Hid (Mod (fun _ => False) w wr)) (fun _ iv _ _ _ => l.length - (intOf iv).toNat)
  case atStart => exact ⟨0, none, 0, rfl, Nat.zero_le _, rfl, Lib.hid (Mine.Own.nil _ _ _), Lib.hid (fun b hb => by cases hb), Lib.hid (Mod.refl _ _)⟩
  case round =>
    obtain ⟨i, oa, oc, rfl, hi, rfl, hO, hfo, hM⟩ := hrel
    have HLN := Lib.hid (fun W (m : Mod (fun _ => False) w W) => rlen_tb (H.out.mod0 m))
    by_cases hlt : i < l.length
    · have hx := (List.getElem?_eq_getElem hlt)
      obtain ⟨x, hxe⟩ : ∃ x, x = l[i] := ⟨_, rfl⟩
      rw [← hxe] at hx
      have HX := Lib.hid hx
      have HXE := Lib.hid hxe
      clear hx hxe
      go_wp2_with (go_at_call 27; refine (HLN.out _ hM.out).mono ?_; rintro e w' ⟨rfl, rfl⟩)
      go_loopw [5, 6] (fun bv kv wv => ∃ k b : Nat, kv = .int .i64 k ∧ k ≤ l.length ∧ bv = .int .i64 b ∧ b ≤ k ∧ Hid (b = ((l.take k).filter fun y => decide (tbs y < tbs x)).length) ∧ Hid (Mod (fun _ => False) wr wv)) (fun _ kv _ => l.length - (intOf kv).toNat)
      case atStart => exact ⟨0, 0, rfl, Nat.zero_le _, rfl, Nat.le_refl _, Lib.hid rfl, Lib.hid (Mod.refl _ _)⟩
      case round =>
        obtain ⟨k, b, rfl, hk, rfl, hbk, hb, hM2⟩ := hrel
        have hmm : Mod (fun _ => False) w wr := hM.out.trans hM2.out
        have HMM := Lib.hid hmm
        clear hmm
        by_cases hlk : k < l.length
        · have ht := H.out.mod0 HMM.out
          have c0 := ht.c0
          obtain ⟨tb, to, rfl, y0⟩ := str_cell ht.own.rd hlk
          obtain ⟨tb', to', e', x0⟩ := str_cell ht.own.rd hlt
          cases e'
          rw [← HXE.out] at x0
          have htk : l.take (k + 1) = l.take k ++ [l[k]] := List.take_succ_eq_append_getElem hlk
          obtain ⟨y, hy⟩ : ∃ y, y = l[k] := ⟨_, rfl⟩
          rw [← hy] at y0 htk
          have HTK := Lib.hid htk
          clear hy htk ht
          by_cases hlt2 : tbs y < tbs x
          · have h1 : Op.bytesLess y.toList x.toList = true := (blt_iff y x).trans (decide_eq_true hlt2)
            have HL2 := Lib.hid hlt2
            clear hlt2
            go_wp2_with (go_at_call 27; refine (HLN.out _ HMM.out).mono ?_; rintro e w' ⟨rfl, rfl⟩)
            refine wp_region_ord (fun w' => w'.cell? ⟨M, 0, none⟩ = some (.slice (some ⟨tb, to, none⟩) l.length c) ∧ w'.cell? ⟨tb, to + k, none⟩ = some (.string y) ∧ w'.cell? ⟨tb, to + i, none⟩ = some (.string x)) [(0, 0), (0, 1), (0, 2), (1, 3), (0, 4), (0, 5), (1, 6), (0, 7), (0, 8), (0, 9), (1, 10), (0, 11), (0, 12), (1, 13), (0, 14)] (by kernel_rfl) (by kernel_rfl) ?_
            go_wp2_with (first
              | (refine ord_pure rfl rfl rfl (fun K hK => ?_); go_big_quiet_op; refine hK _ ?_; clear hK K)
                                                                | (refine ord_skip rfl rfl ?_; simp only [Act.put, List.setIfInBounds_toArray, List.set_cons_zero, List.set_cons_succ])
                                                                | (refine ord_held rfl rfl rfl (⟨c0, y0, x0⟩) (fun K hK => ?_); apply Exists.intro; refine ⟨fun w' hs => ?_, hK _ ?_⟩; (revert hs; dsimp only; (try simp only [and_imp]); intros; go_simp; rfl); clear hK K)
                                                                | (refine ord_keep rfl rfl (⟨c0, y0, x0⟩) (fun K hK => ?_))
                                                                | (refine ord_drop rfl rfl (fun K hK => ?_))
                                                                | (refine ord_nil ?_))
            clear c0 y0 x0 h1
            go_roundw
            case rel => exact ⟨k + 1, b + 1, by go_num, hlk, by go_num, by omega, Lib.hid (by
              rw [HTK.out, List.filter_append, List.length_append, ← hb.out, List.filter_cons, if_pos (decide_eq_true HL2.out)]; rfl), Lib.hid hM2.out.drew⟩
            case measure => simp [intOf]; omega
          · have h1 : Op.bytesLess y.toList x.toList = false := (blt_iff y x).trans (decide_eq_false hlt2)
            have HL2 := Lib.hid hlt2
            clear hlt2
            go_wp2_with (go_at_call 27; refine (HLN.out _ HMM.out).mono ?_; rintro e w' ⟨rfl, rfl⟩)
            refine wp_region_ord (fun w' => w'.cell? ⟨M, 0, none⟩ = some (.slice (some ⟨tb, to, none⟩) l.length c) ∧ w'.cell? ⟨tb, to + k, none⟩ = some (.string y) ∧ w'.cell? ⟨tb, to + i, none⟩ = some (.string x)) [(0, 0), (0, 1), (0, 2), (1, 3), (0, 4), (0, 5), (1, 6), (0, 7), (0, 8), (0, 9), (1, 10), (0, 11), (0, 12), (1, 13), (0, 14)] (by kernel_rfl) (by kernel_rfl) ?_
            go_wp2_with (first
              | (refine ord_pure rfl rfl rfl (fun K hK => ?_); go_big_quiet_op; refine hK _ ?_; clear hK K)
                                                                | (refine ord_skip rfl rfl ?_; simp only [Act.put, List.setIfInBounds_toArray, List.set_cons_zero, List.set_cons_succ])
                                                                | (refine ord_held rfl rfl rfl (⟨c0, y0, x0⟩) (fun K hK => ?_); apply Exists.intro; refine ⟨fun w' hs => ?_, hK _ ?_⟩; (revert hs; dsimp only; (try simp only [and_imp]); intros; go_simp; rfl); clear hK K)
                                                                | (refine ord_keep rfl rfl (⟨c0, y0, x0⟩) (fun K hK => ?_))
                                                                | (refine ord_drop rfl rfl (fun K hK => ?_))
                                                                | (refine ord_nil ?_))
            clear c0 y0 x0 h1
            go_roundw
            case rel => exact ⟨k + 1, b, by go_num, hlk, rfl, by omega, Lib.hid (by
              rw [HTK.out, List.filter_append, List.length_append, ← hb.out, List.filter_cons, if_neg (by rw [decide_eq_true_eq]; exact HL2.out)]; rfl), Lib.hid hM2.out.drew⟩
            case measure => simp [intOf]; omega
        · obtain rfl : k = l.length := by omega
          have HBV : Hid (b = rkT l x) := by rw [List.take_length] at hb; exact hb
          have hOr := hO.out.mod hM2.out (fun _ _ => id)
          have HOR := Lib.hid hOr
          have hgx : (rkL l).take (i + 1) = (rkL l).take i ++ [b] := by
            rw [List.take_succ_eq_append_getElem (by rw [rkL_len]; exact hlt)]
            congr 2
            rw [HBV.out, HXE.out]
            simp [rkL]
          have HGX := Lib.hid hgx
          clear hOr hgx hb
          go_wp2_with (first
            | (go_at_call 27; refine (HLN.out _ HMM.out).mono ?_; rintro e w' ⟨rfl, rfl⟩)
            | (at_builtin; refine wpL_appendN (us := [.int .i64 b]) rfl (.tmp 36) (.tmp 38) 39 rfl tiI rfl HOR.out rfl rfl rfl (by show (i + 1) * _ ≤ _; omega) (by show i + 1 ≤ _; unfold maxLen; omega) ?_; intro a4 c4 w4 hO' hG' _
               have HO4 : Hid (Mine.Own w4 3 1 a4 (i + 1) c4 (nums ((rkL l).take (i + 1)))) := by
                 rw [HGX.out]
                 unfold nums
                 rw [List.map_append]
                 exact Lib.hid hO'
               have HF4 : Hid (∀ b, blk a4 = some b → w.heap.size ≤ b) := Lib.hid (fun b hb => by
                 rcases hG'.pos with e | ⟨g, e, hg⟩
                 · rw [e] at hb; exact hfo.out b hb
                 · have := HMM.out.size; rw [e] at hb; cases hb; omega)
               have HM4 : Hid (Mod (fun _ => False) w w4) := Lib.hid (HMM.out.step hG'.mod (fun b hb e => by have := hfo.out b e; omega))
               clear hO' hG'))
          go_roundw
          case rel => exact ⟨i + 1, a4, c4, by go_num, hlt, rfl, HO4, HF4, HM4⟩
          case measure => simp [intOf]; omega
    · obtain rfl : i = l.length := by omega
      have HO2 : Hid (Mine.Own wr 3 1 oa l.length oc (nums (rkL l))) := by rw [List.take_of_length_le (by simp)] at hO; exact hO
      clear hO
      go_wp2_with (go_at_call 27; refine (HLN.out _ hM.out).mono ?_; rintro e w' ⟨rfl, rfl⟩)
      go_ret
      exact ⟨oa, oc, by rw [rkL_len]; rfl, by rw [rkL_len]; exact HO2.out, hfo.out, hM.out⟩
theorem rrising_nil (w : World) : Calls Try.prog 24 #[.pointer none] w (SliPost [] w) := by
  have HR := Lib.hid (rranks_nil w)
  go_enter Try.func24, Try.ntmps24
  go_wp2_with fail
  refine HR.out.mono ?_
  rintro e w1 ⟨ra, rc, rfl, _, _, hM⟩
  obtain ⟨cur, hcs, hmk⟩ := mkInts 0 w1 (by omega)
  obtain rfl : cur = #[] := Array.eq_empty_of_size_eq_zero hcs
  have hmk' : (Instr.makeSlice 39 (.int .i64 0) (.int .i64 0)).run Try.prog w1 = .ok (.slice (some ⟨w1.heap.size, 0, none⟩) 0 0) (w1.alloc (.cells #[] 3)) := hmk
  have HB := Lib.hid (heap_alloc_new w1 (.cells #[] 3))
  have HM := Lib.hid (hM.trans ((Mod.refl _ w1).alloc (.cells #[] 3)))
  have HZ := Lib.hid hM.size
  clear hmk hcs hM
  simp only [List.length_nil]
  go_wp2_with fail
  clear hmk'
  go_loopw [5] (fun iv wr => iv = .int .i64 0 ∧ wr = w1.alloc (.cells #[] 3)) (fun iv _ => 0)
  case atStart => exact ⟨rfl, rfl⟩
  case round =>
    obtain ⟨rfl, rfl⟩ := hrel
    go_wp2_with fail
    go_ret
    refine ⟨some ⟨w1.heap.size, 0, none⟩, 0, rfl, ⟨rfl, .inr ⟨w1.heap.size, #[], rfl, HB.out, Nat.le_refl _, by unfold maxLen; omega, rfl, rfl⟩⟩, fun b hb => ?_, HM.out⟩
    have hb2 : w1.heap.size = b := by simpa using hb
    have := HZ.out
    omega
theorem rrising_tb {M : Nat} {a : Option Addr} {c : Nat} {l : List ByteArray} {w : World} (h : RbAt w M a c l) (hn : l.Nodup) (hl : l.length ≤ 2 ^ 20) : Calls Try.prog 24 #[.pointer (some ⟨M, 0, none⟩)] w (SliPost (riseL l) w) := by
  have HR := Lib.hid (rranks_tb h hl)
  have HND := Lib.hid hn
  have HLN := Lib.hid (riseL_is hn).len
  clear h hn
  go_enter Try.func24, Try.ntmps24
  go_wp2_with fail
  refine HR.out.mono ?_
  rintro e w1 ⟨ra, rc, rfl, hO, hfr, hM⟩
  rw [rkL_len] at hO ⊢
  obtain ⟨cur, hcs, hmk⟩ := mkInts l.length w1 (by omega)
  have m2 : Mod (fun _ => False) w1 (w1.alloc (.cells cur 3)) := (Mod.refl _ w1).alloc _
  have HB := Lib.hid (heap_alloc_new w1 (.cells cur 3))
  have HM := Lib.hid (hM.trans m2)
  have HZ := Lib.hid hM.size
  have HO := Lib.hid (hO.mod m2 (fun _ _ => id))
  have HFR : Hid (∀ b, blk ra = some b → b ≠ w1.heap.size) := Lib.hid (fun b hb => by have := hO.lt b hb; omega)
  have HCS := Lib.hid hcs
  clear hcs hM hO hfr m2 HR
  go_wp2_with fail
  clear hmk
  obtain ⟨bk, hbk⟩ : ∃ b, b = w1.heap.size := ⟨_, rfl⟩
  rw [← hbk] at HB HFR ⊢
  have HBK := Lib.hid hbk
  clear hbk
  obtain ⟨w3, hw3⟩ : ∃ v, v = w1.alloc (.cells cur 3) := ⟨_, rfl⟩
  rw [← hw3] at HB HM HO ⊢
  clear hw3
  have HC3 : Hid (∃ xs : List Value, xs.length = l.length ∧ w3.heap[bk]? = some (.cells xs.toArray 3 (0, 0)) ∧ ∀ i (hi : i < l.length), i < 0 → xs[rkT l l[i]]? = some (.int .i64 (i : Nat))) :=
    Lib.hid ⟨cur.toList, by rw [Array.length_toList]; exact HCS.out, by simpa using HB.out, fun i hi h => by omega⟩
  clear HCS
  go_loopw [5] (fun iv wr => ∃ k : Nat, iv = .int .i64 k ∧ k ≤ l.length ∧ Hid (∃ xs : List Value, xs.length = l.length ∧ wr.heap[bk]? = some (.cells xs.toArray 3 (0, 0)) ∧ ∀ i (hi : i < l.length), i < k → xs[rkT l l[i]]? = some (.int .i64 (i : Nat))) ∧ Hid (Mod (fun b => b = bk) w3 wr)) (fun iv _ => l.length - (intOf iv).toNat)
  case atStart => exact ⟨0, rfl, Nat.zero_le _, HC3, Lib.hid (Mod.refl _ _)⟩
  case round =>
    obtain ⟨k, rfl, hk, hc, hM⟩ := hrel
    by_cases hlt : k < l.length
    · obtain ⟨xs, hxl, hxc, hxt⟩ := hc.out
      have hg : (rkL l)[k]? = some (rkT l l[k]) := by simp [rkL, hlt]
      have hil := rkT_lt (List.getElem_mem hlt)
      obtain ⟨i, hi⟩ : ∃ i, i = rkT l l[k] := ⟨_, rfl⟩
      rw [← hi] at hg hil
      have HI := Lib.hid hi
      clear hi
      obtain ⟨rb, rfl, x0⟩ := int_cell (HO.out.mod hM.out (fun b hb e => HFR.out b hb e)) hg
      obtain ⟨⟨u0, y0⟩, f0, hs⟩ := fill_step (v := k) hxc hxl hil
      have HS : Hid (∃ ys : List Value, ys.length = l.length ∧ (wr.setCell ⟨bk, i, none⟩ (.int .i64 (k : Nat))).heap[bk]? = some (.cells ys.toArray 3 (0, 0)) ∧ ∀ j (hj : j < l.length), j < k + 1 → ys[rkT l l[j]]? = some (.int .i64 (j : Nat))) := by
        refine Lib.hid ⟨_, by rw [List.length_set]; exact hxl, hs, fun j hj hjk => ?_⟩
        rw [List.getElem?_set]
        by_cases hij : i = rkT l l[j]
        · rw [if_pos hij, if_pos (by omega)]
          have e1 := rkT_inj (List.getElem_mem hlt) (List.getElem_mem hj) (by rw [← HI.out, hij])
          have e2 := idx_inj HND.out (List.getElem?_eq_getElem hlt) (by rw [e1]; exact List.getElem?_eq_getElem hj)
          rw [e2]
        · rw [if_neg hij]
          rcases Nat.lt_succ_iff_lt_or_eq.1 hjk with h | rfl
          · exact hxt j hj h
          · exact absurd HI.out hij
      have HMS : Hid (Mod (fun b => b = bk) w3 (wr.setCell ⟨bk, i, none⟩ (.int .i64 (k : Nat)))) := Lib.hid (hM.out.setCell (p := ⟨bk, i, none⟩) (fun _ => rfl) _)
      clear hxt hxc hxl hs hc hM hg
      go_wp2_with fail
      go_roundw
      case rel => exact ⟨k + 1, by go_num, hlt, HS, HMS⟩
      case measure => simp [intOf]; omega
    · obtain rfl : k = l.length := by omega
      obtain ⟨xs, hxl, hxc, hxt⟩ := hc.out
      have HO2 := Lib.hid (own_cells hxc hxl (by omega) (rise_fill HND.out hxl (fun i hi => hxt i hi hi)))
      clear hxl hxc hxt hc
      go_wp2_with fail
      go_ret
      refine ⟨some ⟨bk, 0, none⟩, l.length, by rw [HLN.out]; rfl, by rw [HLN.out]; exact HO2.out, fun b hb => ?_, HM.out.step hM.out (fun i hi e => by have := HBK.out; have := HZ.out; omega)⟩
      have hb2 : bk = b := by simpa using hb
      have := HBK.out; have := HZ.out
      omega
end Go.Proofs.Ytcmgeiohcgngeaa
