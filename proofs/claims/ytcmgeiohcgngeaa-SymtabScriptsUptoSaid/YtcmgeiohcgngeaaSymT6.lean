/-
  Table.Page and the document's Page, walked.
-/
import Derived.Test.YtcmgeiohcgngeaaSymT5
import Derived.Test.YtcmgeiohcgngeaaSymTV
import Derived.Test.YtcmgeiohcgngeaaSymT3
namespace Go.Proofs.Ytcmgeiohcgngeaa
open Go Go.RowKit Go.Mine Go.Maps Go.Sort
set_option linter.unusedVariables false
set_option maxHeartbeats 8000000
set_option maxRecDepth 100000

/-- the texts at their places -/
noncomputable def atL (l : List ByteArray) : List ByteArray := (riseL l).map fun i => l.getD i ⟨#[]⟩
theorem atL_len {l : List ByteArray} (h : l.Nodup) : (atL l).length = l.length := by unfold atL; rw [List.length_map, (riseL_is h).len]
theorem range_getD (l : List ByteArray) : (List.range l.length).map (fun i => l.getD i ⟨#[]⟩) = l := by
  refine List.ext_getElem? fun i => ?_
  by_cases hi : i < l.length
  · simp [hi]
  · rw [List.getElem?_eq_none (by simp; omega), List.getElem?_eq_none (by omega)]
theorem atL_perm {l : List ByteArray} (h : l.Nodup) : (atL l).Perm l := by
  have := (riseL_perm h).map fun i => l.getD i (⟨#[]⟩ : ByteArray)
  rw [range_getD] at this
  exact this
theorem atL_mem {l : List ByteArray} (h : l.Nodup) {x : ByteArray} (hx : x ∈ atL l) : x ∈ l := (atL_perm h).mem_iff.1 hx
theorem atL_get {l : List ByteArray} (h : l.Nodup) {k : Nat} (hk : k < l.length) : ∃ i x, (riseL l)[k]? = some i ∧ l[i]? = some x ∧ i < l.length ∧ (atL l).take (k + 1) = (atL l).take k ++ [x] := by
  have h1 : (riseL l)[k]? = some ((riseL l)[k]'(by rw [(riseL_is h).len]; exact hk)) := List.getElem?_eq_getElem _
  obtain ⟨x, hx, _⟩ := (riseL_is h).at_ _ _ h1
  refine ⟨_, x, h1, hx, (List.getElem?_eq_some_iff.1 hx).1, ?_⟩
  rw [List.take_succ_eq_append_getElem (by rw [atL_len h]; exact hk)]
  congr 2
  simp only [atL, List.getElem_map]
  rw [List.getD_eq_getElem?_getD, hx]
  rfl
theorem atL_sorted {l : List ByteArray} (h : l.Nodup) : (atL l).Pairwise fun x y => tbs x ≤ tbs y := by
  have hR := riseL_is h
  rw [List.pairwise_iff_getElem]
  intro i j hi hj hij
  rw [atL_len h] at hi hj
  obtain ⟨p, x, h1, h2, _, _⟩ := atL_get h hi
  obtain ⟨q, y, h3, h4, _, _⟩ := atL_get h hj
  obtain ⟨x', hx', hrx⟩ := hR.at_ _ _ h1
  obtain ⟨y', hy', hry⟩ := hR.at_ _ _ h3
  rw [h2] at hx'; cases hx'
  rw [h4] at hy'; cases hy'
  have e1 : (atL l)[i]'(by rw [atL_len h]; exact hi) = x := by
    have h5 : (atL l)[i]? = some x := by simp only [atL, List.getElem?_map, h1, Option.map_some]; rw [List.getD_eq_getElem?_getD, h2]; rfl
    exact (List.getElem?_eq_some_iff.1 h5).2
  have e2 : (atL l)[j]'(by rw [atL_len h]; exact hj) = y := by
    have h5 : (atL l)[j]? = some y := by simp only [atL, List.getElem?_map, h3, Option.map_some]; rw [List.getD_eq_getElem?_getD, h4]; rfl
    exact (List.getElem?_eq_some_iff.1 h5).2
  rw [e1, e2]
  refine List.not_lt.1 fun hlt => ?_
  have := rkT_mono (List.mem_of_getElem? h4) hlt
  omega
theorem atL_srt {l : List ByteArray} (h : l.Nodup) : srtT l = atL l := by
  unfold srtT
  rw [mergeSort_of_perm ((atL_perm h).symm.map tbs), List.mergeSort_of_pairwise (by
    rw [List.pairwise_map]
    exact (atL_sorted h).imp fun {x y} hxy => decide_eq_true hxy), List.map_map]
  have e : (unT ∘ tbs : ByteArray → ByteArray) = id := funext unT_tbs
  rw [e, List.map_id]
theorem page_none {tv : Value} {w : World} (h1 : Calls Try.prog 28 #[tv] w fun e w' => e = .returned (.bool true) ∧ w = w') : Calls Try.prog 15 #[tv] w fun e w' => e = .returned (.slice none 0 0) ∧ w = w' := by
  have H1 := Lib.hid h1
  clear h1
  go_enter Try.func15, Try.ntmps15
  go_wp2_with fail
  refine H1.out.mono ?_
  rintro e w1 ⟨rfl, rfl⟩
  clear H1
  go_wp2_with fail
  go_ret
  exact ⟨rfl, rfl⟩
theorem page_tb {T : Nat} {a : Option Addr} {c B : Nat} {l : List ByteArray} {w : World} (h : TbAt w T a c B l) (hok : OkT l) (hl : l.length ≤ 2 ^ 20) : Calls Try.prog 15 #[.pointer (some ⟨T, 0, none⟩)] w fun e w' => ∃ v, e = .returned v ∧ PgRes w w' (atL l) v := by
  have H1 := Lib.hid (none_tb h)
  have c0 := h.c0
  have HV := Lib.hid (fun w2 (hw : w2 = w.alloc (.cells #[.slice a l.length c] 30)) => by
    have m : Mod (fun _ => False) w w2 := by rw [hw]; exact (Mod.refl _ w).alloc _
    exact (⟨sortedT_any w.heap.size l a c w2 (by omega) (by rw [hw]; exact heap_alloc_new w _) (h.own.rd.mod m (fun _ _ => id)) (fun b hb => (h.own.mod m (fun _ _ => id)).lt b hb), m⟩ : _ ∧ Mod (fun _ => False) w w2))
  have HP := Lib.hid (fun wx oa oc (hr : Rd wx oa (sts (srtT l))) => by
    have h1 := symPage_any oa (srtT l) oc wx hr (by rw [srtT_len]; omega) (fun s hs => by have := hok.sm s (srtT_mem hs); omega)
    rw [srtT_len] at h1
    exact h1)
  have HE := Lib.hid (atL_srt hok.nd)
  clear h hok
  go_enter Try.func15, Try.ntmps15
  go_wp2_with fail
  refine H1.out.mono ?_
  rintro e w1 ⟨rfl, rfl⟩
  clear H1
  go_wp2_with fail
  refine (valT_any a l.length c w).mono ?_
  rintro e w2 ⟨rfl, hw2⟩
  obtain ⟨hS, hm⟩ := HV.out w2 hw2
  have HS := Lib.hid hS; have HM := Lib.hid hm
  clear hS hm hw2 HV c0
  go_wp2_with fail
  refine HS.out.mono ?_
  rintro e w3 ⟨oa, oc, rfl, hO, hf, hM⟩
  have HC := Lib.hid (HP.out w3 oa oc hO.rd); have HM2 := Lib.hid (HM.out.trans hM)
  clear hO hf hM HS HP HM
  go_wp2_with fail
  refine HC.out.mono ?_
  rintro e w4 ⟨v, rfl, hv⟩
  obtain ⟨hm, pa, pc, rfl, hr⟩ := hv
  rw [HE.out] at hr ⊢
  obtain ⟨bs, hbs⟩ : ∃ bs, bs = if pgErr none (atL l) = 0 then pgBytes (atL l) else [] := ⟨_, rfl⟩
  rw [← hbs] at hr ⊢
  have HM4 := Lib.hid (HM2.out.trans hm); have HR := Lib.hid hr; have HBS := Lib.hid hbs
  clear hm hr HC HM2 hbs
  go_wp2_with fail
  go_ret
  exact ⟨.slice pa bs.length pc, rfl, HM4.out, pa, pc, by rw [← HBS.out], by rw [← HBS.out]; exact HR.out⟩
theorem rpage_nil (w : World) : Calls Try.prog 26 #[.pointer none] w fun e w' => e = .returned (.slice none 0 0) ∧ w = w' := by
  go_enter Try.func26, Try.ntmps26
  go_wp2_with fail
  go_ret
  exact ⟨rfl, rfl⟩
theorem rpage_tb {M : Nat} {a : Option Addr} {c : Nat} {l : List ByteArray} {w : World} (h : RbAt w M a c l) (hok : OkT l) (hl : l.length ≤ 2 ^ 20) : Calls Try.prog 26 #[.pointer (some ⟨M, 0, none⟩)] w fun e w' => ∃ v, e = .returned v ∧ PgRes w w' (atL l) v := by
  have HRI := Lib.hid (rrising_tb h hok.nd hl)
  have H := Lib.hid h; have HOK := Lib.hid hok
  have HRL := Lib.hid (riseL_is hok.nd).len
  clear h hok
  go_enter Try.func26, Try.ntmps26
  go_wp2_with fail
  refine HRI.out.mono ?_
  rintro e w1 ⟨ra, rc, rfl, hO, hfr, hM1⟩
  rw [HRL.out] at hO ⊢
  have HO := Lib.hid hO; have HM1 := Lib.hid hM1
  clear hO hfr hM1 HRI
  go_wp2_with fail
  go_loopw [4, 5] (fun ov iv wr => ∃ (k : Nat) (oa : Option Addr) (oc : Nat), iv = .int .i64 k ∧ k ≤ l.length ∧ ov = .slice oa k oc ∧ Hid (Mine.Own wr 9 1 oa k oc (sts ((atL l).take k))) ∧ Hid (∀ b, blk oa = some b → w1.heap.size ≤ b) ∧ Hid (Mod (fun _ => False) w1 wr)) (fun _ iv _ => l.length - (intOf iv).toNat)
  case atStart => exact ⟨0, none, 0, rfl, Nat.zero_le _, rfl, Lib.hid (Mine.Own.nil _ _ _), Lib.hid (fun b hb => by cases hb), Lib.hid (Mod.refl _ _)⟩
  case round =>
    obtain ⟨k, oa, oc, rfl, hk, rfl, hO2, hfo, hM⟩ := hrel
    by_cases hlt : k < l.length
    · obtain ⟨i, x, hgi, hgx, hil, htk⟩ := atL_get HOK.out.nd hlt
      have ht := H.out.mod0 (HM1.out.trans hM.out)
      have c0 := ht.c0
      obtain ⟨tb, to, rfl, x0⟩ := str_cell ht.own.rd hil
      rw [(List.getElem?_eq_some_iff.1 hgx).2] at x0
      obtain ⟨rb, rfl, y0⟩ := int_cell (HO.out.mod hM.out (fun _ _ => id)) hgi
      have HTK := Lib.hid htk
      clear ht hgi hgx htk
      go_wp2_with fail
      refine wp_region_ord (fun w' => w'.cell? ⟨M, 0, none⟩ = some (.slice (some ⟨tb, to, none⟩) l.length c) ∧ w'.cell? ⟨rb, k, none⟩ = some (.int .i64 (i : Nat)) ∧ w'.cell? ⟨tb, to + i, none⟩ = some (.string x)) [(0, 0), (0, 1), (0, 2), (0, 3), (1, 4), (0, 5), (0, 6), (0, 7), (1, 8), (0, 9), (1, 10), (3, 11), (3, 12), (0, 13)] (by kernel_rfl) (by kernel_rfl) ?_
      go_wp2_with (first
        | (refine ord_drop rfl rfl (fun K hK => ?_); refine wpO_append (.tmp 18) (.tmp 29) 30 30 rfl ti22 rfl (hO2.out.alloc _).drew rfl (Src.ofRd ti22.ht 1 1 (Rd.dr (Rd.news wr [_] 9)) (by simp) (by simp [Value.oneCell'])) (by omega) (by unfold maxLen; omega) ?_; intro a3 c3 w3 hO3 hG3 _
           have HO3 : Hid (Mine.Own w3 9 1 a3 (k + 1) c3 (sts ((atL l).take (k + 1)))) := by
             rw [HTK.out, sts_append]
             exact Lib.hid hO3
           have HG3 := Lib.hid (hG3.pre0 ((Mod.refl _ wr).alloc _).drew); clear hO3 hG3; refine hK _ _ ?_; clear hK K)
        | (refine ord_pure rfl rfl rfl (fun K hK => ?_); go_big_quiet_op; refine hK _ ?_; clear hK K)
                                                                | (refine ord_skip rfl rfl ?_; simp only [Act.put, List.setIfInBounds_toArray, List.set_cons_zero, List.set_cons_succ])
                                                                | (refine ord_held rfl rfl rfl (⟨c0, y0, x0⟩) (fun K hK => ?_); apply Exists.intro; refine ⟨fun w' hs => ?_, hK _ ?_⟩; (revert hs; dsimp only; (try simp only [and_imp]); intros; go_simp; rfl); clear hK K)
                                                                | (refine ord_keep rfl rfl (⟨c0, y0, x0⟩) (fun K hK => ?_))
                                                                | (refine ord_drop rfl rfl (fun K hK => ?_))
                                                                | (refine ord_nil ?_))
      clear c0 y0 x0
      go_roundw
      case rel => exact ⟨k + 1, a3, c3, by go_num, hlt, rfl, HO3, Lib.hid (fun b hb => by
        rcases HG3.out.pos with e | ⟨g, e, hg⟩
        · rw [e] at hb; exact hfo.out b hb
        · have := hM.out.size; rw [e] at hb; cases hb; omega), Lib.hid (hM.out.step HG3.out.mod (fun b hb e => by have := hfo.out b e; omega))⟩
      case measure => simp [intOf]; omega
    · obtain rfl : k = l.length := by omega
      have HRP := Lib.hid (refPage_any oa (atL l) oc wr (by
        have := hO2.out.rd
        rwa [List.take_of_length_le (by rw [atL_len HOK.out.nd]; exact Nat.le_refl _)] at this) (by rw [atL_len HOK.out.nd]; omega) (fun s hs => by have := HOK.out.sm s (atL_mem HOK.out.nd hs); omega))
      rw [atL_len HOK.out.nd] at HRP
      have HMW := Lib.hid (HM1.out.trans hM.out)
      clear hO2 hfo hM HO HM1
      go_wp2_with fail
      refine HRP.out.mono ?_
      rintro e w4 ⟨v, rfl, hv⟩
      obtain ⟨hm, pa, pc, rfl, hr⟩ := hv
      obtain ⟨bs, hbs⟩ : ∃ bs, bs = if pgErr none (atL l) = 0 then pgBytes (atL l) else [] := ⟨_, rfl⟩
      rw [← hbs] at hr ⊢
      have HM4 := Lib.hid (HMW.out.trans hm); have HR := Lib.hid hr; have HBS := Lib.hid hbs
      clear hm hr HRP HMW hbs
      go_wp2_with fail
      go_ret
      exact ⟨.slice pa bs.length pc, rfl, HM4.out, pa, pc, by rw [← HBS.out], by rw [← HBS.out]; exact HR.out⟩
end Go.Proofs.Ytcmgeiohcgngeaa
