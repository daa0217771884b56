/-
  The document's Put, walked.
-/
import Derived.Test.YtcmgeiohcgngeaaSymT2
namespace Go.Proofs.Ytcmgeiohcgngeaa
open Go Go.RowKit Go.Mine Go.Maps
set_option linter.unusedVariables false
set_option maxHeartbeats 8000000
set_option maxRecDepth 100000

theorem rput_nil (v : Value) (w : World) : Calls Try.prog 17 #[.pointer none, v] w fun e w' => e = .returned (.tuple #[.slice none 0 0, .int .i64 1]) ∧ w = w' := by
  go_enter Try.func17, Try.ntmps17
  go_wp2_with fail
  exact bodyPost_ret (v := .tuple #[.slice none 0 0, .int .i64 1]) (by simp [results, Try.results17, go_sem]) rfl ⟨rfl, rfl⟩
def RPutPost (M : Nat) (a : Option Addr) (l xs : List ByteArray) (w : World) (e : Ending) (w' : World) : Prop :=
  ∃ oa oc a' c', e = .returned (.tuple #[.slice oa xs.length oc, .int .i64 0]) ∧ Fam 0 w' [rbI M a' c' (putT l xs).2, nmI oa xs.length oc (putT l xs).1] ∧ Mod (fun b => b = M ∨ blk a = some b) w w' ∧
    (∀ b, blk a' = some b → blk a = some b ∨ w.heap.size ≤ b) ∧ ∀ b, blk oa = some b → w.heap.size ≤ b
theorem rput_any {M : Nat} {a : Option Addr} {c : Nat} {l : List ByteArray} {w : World} (h : RbAt w M a c l) (ta : Option Addr) (tc : Nat) (xs : List ByteArray) (hr : Rd w ta (sts xs)) (hn : xs.length ≤ 2 ^ 20) (hln : l.length ≤ 2 ^ 20) (hs : ∀ x ∈ xs, x.size < 2 ^ 60)
    (hsep : ∀ b, blkX ta xs = some b → ¬ (b = M ∨ blk a = some b)) :
    Calls Try.prog 17 #[.pointer (some ⟨M, 0, none⟩), .slice ta xs.length tc] w fun e w' =>
      (longT xs = true → e = .returned (.tuple #[.slice none 0 0, .int .i64 3]) ∧ w = w') ∧ (longT xs = false → RPutPost M a l xs w e w') := by
  have HR := Lib.hid hr; have HS := Lib.hid hs; have HSEP := Lib.hid hsep; have H := Lib.hid h
  clear h hr hs hsep
  go_enter Try.func17, Try.ntmps17
  go_wp2_with fail
  go_loopw [6] (fun iv wr => ∃ k : Nat, iv = .int .i64 k ∧ k ≤ xs.length ∧ Hid (∀ x ∈ xs.take k, ¬ 4096 < x.size) ∧ wr = w) (fun iv _ => xs.length - (intOf iv).toNat)
  case atStart => exact ⟨0, rfl, Nat.zero_le _, Lib.hid (fun x hx => by simp at hx), rfl⟩
  case round =>
    obtain ⟨k, rfl, hk, hno, hww⟩ := hrel
    obtain rfl : w = wr := hww.symm
    clear hww
    by_cases hlt : k < xs.length
    · obtain ⟨b, o, rfl, x0⟩ := str_cell HR.out hlt
      have htk : xs.take (k + 1) = xs.take k ++ [xs[k]] := List.take_succ_eq_append_getElem hlt
      have hm := List.getElem_mem hlt
      have hs := HS.out _ hm
      obtain ⟨x, hx⟩ : ∃ x, x = xs[k] := ⟨_, rfl⟩
      rw [← hx] at x0 htk hm hs
      have HTK := Lib.hid htk; have HMX := Lib.hid hm
      clear hx htk hm
      by_cases hl : 4096 < x.size
      · have HLX : Hid (longT xs = true) := Lib.hid (List.any_eq_true.2 ⟨x, HMX.out, by simpa using hl⟩)
        have hi : (4096 : Int) < x.size := by omega
        clear hl
        go_wp2_with fail
        exact bodyPost_ret (v := .tuple #[.slice none 0 0, .int .i64 3]) (by simp [results, Try.results17, go_sem]) rfl ⟨fun _ => ⟨rfl, rfl⟩, fun h => by rw [HLX.out] at h; cases h⟩
      · have HL := Lib.hid hl
        have hi : ¬ (4096 : Int) < x.size := by omega
        clear hl
        go_wp2_with fail
        go_roundw
        case rel => exact ⟨k + 1, by go_num, hlt, Lib.hid (fun y hy => by
          rw [HTK.out] at hy
          rcases List.mem_append.1 hy with hy | hy
          · exact hno.out y hy
          · rw [List.mem_singleton] at hy; subst hy; exact HL.out), trivial⟩
        case measure => simp [intOf]; omega
    · obtain rfl : k = xs.length := by omega
      have HLX : Hid (longT xs = false) := Lib.hid (List.any_eq_false.2 (fun x hx => by
        have := hno.out x (by rw [List.take_length]; exact hx)
        simpa using this))
      have HF0 : Hid (Fam 0 w [rbI M a c l, nmI none 0 0 []]) := Lib.hid ((Fam.one (i := rbI M a c l) H.out (fun _ _ => Nat.zero_le _) (Nat.zero_le _)).push (Mod.refl _ _) (i := nmI none 0 0 []) (Mine.Own.nil _ _ _) (fun b hb => by cases hb))
      clear hk hlt hno
      go_wp2_with fail
      go_loopw [7, 8, 9, 10] (fun ov iv _ _ wr => ∃ (k : Nat) (oa : Option Addr) (oc : Nat) (a' : Option Addr) (c' : Nat), iv = .int .i64 k ∧ k ≤ xs.length ∧ ov = .slice oa k oc ∧
        Hid (Fam 0 wr [rbI M a' c' (putT l (xs.take k)).2, nmI oa k oc (putT l (xs.take k)).1]) ∧ Hid (Mod (fun b => b = M ∨ blk a = some b) w wr) ∧ Hid (∀ b, blk a' = some b → blk a = some b ∨ w.heap.size ≤ b) ∧ Hid (∀ b, blk oa = some b → w.heap.size ≤ b)) (fun _ iv _ _ _ => xs.length - (intOf iv).toNat)
      case atStart => exact ⟨0, none, 0, a, c, rfl, Nat.zero_le _, rfl, HF0, Lib.hid (Mod.refl _ w), Lib.hid (fun b hb => .inl hb), Lib.hid (fun b hb => by cases hb)⟩
      case round =>
        obtain ⟨k, oa, oc, a', c', rfl, hk, rfl, hf, hM, hfa, hfo⟩ := hrel
        by_cases hlt : k < xs.length
        · obtain ⟨tb, to, rfl, x0⟩ := str_cell (rd_modX HR.out hM.out HSEP.out) hlt
          have htk := putT_snoc l (xs.take k) xs[k]
          rw [← List.take_succ_eq_append_getElem hlt] at htk
          obtain ⟨x, hx⟩ : ∃ x, x = xs[k] := ⟨_, rfl⟩
          rw [← hx] at x0 htk
          have hle := putT_le l (xs.take k)
          rw [List.length_take] at hle
          obtain ⟨lk, hlk⟩ : ∃ lk, lk = (putT l (xs.take k)).2 := ⟨_, rfl⟩
          obtain ⟨ok, hok⟩ : ∃ ok, ok = (putT l (xs.take k)).1 := ⟨_, rfl⟩
          rw [← hlk] at htk hle hf
          rw [← hok] at htk hf
          have hlk2 : lk.length < 2 ^ 22 := by omega
          have HTK := Lib.hid htk
          clear hx hlk hok htk hle
          have ht : RbAt wr M a' c' lk := hf.out.at_ (rbI M a' c' lk) (by simp)
          have HT := Lib.hid ht
          have HFI := Lib.hid (rfind_tb ht x (by omega))
          have ho : Mine.Own wr 3 1 oa k oc (nums ok) := hf.out.at_ (nmI oa k oc ok) (by simp)
          have HO := Lib.hid ho
          clear ht ho
          cases hp : plc lk x with
          | some n =>
            rw [hp] at HFI
            simp only [Option.getD_some, Option.isSome_some] at HFI
            have HST : Hid (numT lk x = n ∧ addT lk x = lk) := Lib.hid ⟨by unfold numT; rw [hp]; rfl, by unfold addT; rw [if_pos (by rw [hp]; rfl)]⟩
            clear hp
            go_wp2_with (first
              | (go_at_call 21; refine HFI.out.mono ?_; rintro e w' ⟨rfl, rfl⟩)
              | (at_builtin; refine wpL_appendN (us := [.int .i64 n]) rfl (.tmp 60) (.tmp 62) 39 rfl tiI rfl HO.out rfl rfl rfl (by show (k + 1) * _ ≤ _; omega) (by show k + 1 ≤ _; unfold maxLen; omega) ?_; intro a4 c4 w4 hO' hG' _
                 have HF4 : Hid (Fam 0 w4 [rbI M a' c' lk, nmI a4 (k + 1) c4 (ok ++ [n])]) := Lib.hid (Fam.upd (l1 := [rbI M a' c' lk]) (l2 := []) (i := nmI oa k oc ok) hf.out hG'.mod (by
                   show Mine.Own w4 _ 1 a4 (k + 1) c4 (nums (ok ++ [n]))
                   unfold nums; rw [List.map_append]; exact hO') (fun b hb => hG'.pos.elim (fun e => .inl (by show blk oa = some b; rw [← e]; exact hb)) (fun ⟨g, e, hg⟩ => by
                     have hb : blk a4 = some b := hb
                     rw [e] at hb; cases hb; exact .inr hg)))
                 have HM4 : Hid (Mod (fun b => b = M ∨ blk a = some b) w w4) := Lib.hid (hM.out.step hG'.mod (fun b hb e => by have := hfo.out b e; omega))
                 have HFO4 : Hid (∀ b, blk a4 = some b → w.heap.size ≤ b) := Lib.hid (fun b hb => by
                   rcases hG'.pos with e | ⟨g, e, hg⟩
                   · rw [e] at hb; exact hfo.out b hb
                   · have := hM.out.size; rw [e] at hb; cases hb; omega)
                 clear hO' hG' hf hM hfo))
            go_roundw
            case rel => exact ⟨k + 1, a4, c4, a', c', by go_num, hlt, rfl, by rw [HTK.out, HST.out.1, HST.out.2]; exact HF4, HM4, hfa, HFO4⟩
            case measure => simp [intOf]; omega
          | none =>
            rw [hp] at HFI
            simp only [Option.getD_none, Option.isSome_none] at HFI
            have HST : Hid (numT lk x = lk.length ∧ addT lk x = lk ++ [x]) := Lib.hid ⟨by unfold numT; rw [hp]; rfl, by unfold addT; rw [if_neg (by rw [hp]; simp)]⟩
            have c0 := HT.out.c0
            clear hp
            go_wp2_with (go_at_call 21; refine HFI.out.mono ?_; rintro e w' ⟨rfl, rfl⟩)
            refine wp_region_ord (fun w' => w'.cell? ⟨M, 0, none⟩ = some (.slice a' lk.length c') ∧ w'.cell? ⟨tb, to + k, none⟩ = some (.string x)) [(0, 0), (0, 1), (0, 2), (0, 3), (1, 4), (0, 5), (0, 6), (0, 7), (1, 8), (2, 9), (3, 10), (0, 11), (0, 12), (3, 13)] (by kernel_rfl) (by kernel_rfl) ?_
            go_wp2_with (first
              | (refine ord_pure rfl rfl rfl (fun K hK => ?_); go_big_quiet_op; refine hK _ ?_; clear hK K)
                                                                | (refine ord_skip rfl rfl ?_; simp only [Act.put, List.setIfInBounds_toArray, List.set_cons_zero, List.set_cons_succ])
                                                                | (refine ord_held rfl rfl rfl (⟨c0, x0⟩) (fun K hK => ?_); apply Exists.intro; refine ⟨fun w' hs => ?_, hK _ ?_⟩; (revert hs; dsimp only; (try simp only [and_imp]); intros; go_simp; rfl); clear hK K)
                                                                | (refine ord_keep rfl rfl (⟨c0, x0⟩) (fun K hK => ?_))
                                                                | (refine ord_drop rfl rfl (fun K hK => ?_))
                                                                | (refine ord_nil ?_))
            have ma : Mod (fun _ => False) wr ((wr.alloc (.cells #[.string x] 9)).drew) := ((Mod.refl _ wr).alloc _).drew
            have HMA := Lib.hid ma
            have HSRC : Hid (Src Try.prog 1 30 (.slice (some ⟨wr.heap.size, 0, none⟩) 1 1) 1 [.string x] ((wr.alloc (.cells #[.string x] 9)).drew)) := Lib.hid (Src.ofRd ti22.ht 1 1 ((Rd.new wr (.string x) 9).mod (Mod.refl (fun _ => False) _).drew (fun _ _ => id)) rfl (fun u hu => by rw [List.mem_singleton] at hu; subst hu; rfl))
            have HOW := Lib.hid (HT.out.own.mod ma (fun _ _ => id))
            have c0' := ma.cell c0 id; have x0' := ma.cell x0 id
            refine hK _ _ ⟨c0', x0'⟩ ?_; clear hK K
            clear ma
            obtain ⟨u, hu⟩ : ∃ u, u = (wr.alloc (.cells #[.string x] 9)).drew := ⟨_, rfl⟩
            rw [← hu] at HMA HSRC HOW c0' x0' ⊢
            clear hu
            go_wp2_with (first
              | (refine ord_drop rfl rfl (fun K hK => ?_); refine wpO_append (.tmp 51) (.tmp 56) 30 30 rfl ti22 rfl HOW.out rfl HSRC.out (by omega) (by unfold maxLen; omega) ?_; intro a4 c4 w2 hO' hG' _
                 have hq := hG'.mod.at (HMA.out.at HT.out.box id) HT.out.ne
                 have fz : w2.frozen? ⟨M, 0, none⟩ = false := frozen_at hq
                 have d2 := cell_at (j := 0) hq rfl
                 have hMlt : M < wr.heap.size := HT.out.ltM
                 have hz1 := HMA.out.size
                 have ha4M := hG'.ne (b := M) (by omega) HT.out.ne
                 have hms : Mod (fun b => b = M) w2 (w2.setCell ⟨M, 0, none⟩ (.slice a4 (lk.length + 1) c4)) := (Mod.refl (fun b => b = M) w2).setCell (p := ⟨M, 0, none⟩) (fun _ => rfl) _
                 have hMt : Mod (fun b => b = M ∨ blk a' = some b) wr (w2.setCell ⟨M, 0, none⟩ (.slice a4 (lk.length + 1) c4)) :=
                   ((HMA.out.mono (fun _ _ f => f.elim)).step hG'.mod (fun _ _ e => .inr e)).step hms (fun _ _ e => .inl e)
                 have hTb : RbAt (w2.setCell ⟨M, 0, none⟩ (.slice a4 (lk.length + 1) c4)) M a4 c4 (lk ++ [x]) := by
                   refine ⟨?_, ?_, ha4M⟩
                   · have := heap_setCell_at (j := 0) (.slice a4 (lk.length + 1) c4) hq
                     rw [List.length_append]
                     exact this
                   · rw [List.length_append]
                     have h := hO'.mod hms (fun b hb e => ha4M (by rw [hb, e]))
                     unfold sts at h ⊢
                     rw [List.map_append]
                     exact h
                 have hpos : ∀ b, blk a4 = some b → blk a' = some b ∨ wr.heap.size ≤ b := fun b hb => by
                   rcases hG'.pos with e | ⟨g, e, hg⟩
                   · exact .inl (by rw [← e]; exact hb)
                   · rw [e] at hb; cases hb; exact .inr (by omega)
                 have HF3 : Hid (Fam 0 (w2.setCell ⟨M, 0, none⟩ (.slice a4 (lk.length + 1) c4)) [rbI M a4 c4 (lk ++ [x]), nmI oa k oc ok]) := Lib.hid (hf.out.upd0 (i := rbI M a' c' lk) hMt hTb (fun b hb => by
                   rcases hb with hb | hb
                   · exact .inl (.inl hb)
                   · rcases hpos b hb with e | e
                     · exact .inl (.inr e)
                     · exact .inr e))
                 have HM3 : Hid (Mod (fun b => b = M ∨ blk a = some b) w (w2.setCell ⟨M, 0, none⟩ (.slice a4 (lk.length + 1) c4))) := Lib.hid (hM.out.step hMt (fun b hb e => by
                   rcases e with e | e
                   · exact .inl e
                   · rcases hfa.out b e with e | e
                     · exact .inr e
                     · omega))
                 have HFA4 : Hid (∀ b, blk a4 = some b → blk a = some b ∨ w.heap.size ≤ b) := Lib.hid (fun b hb => by
                   rcases hpos b hb with e | e
                   · exact hfa.out b e
                   · have := hM.out.size; exact .inr (by omega))
                 have hO3 : Mine.Own (w2.setCell ⟨M, 0, none⟩ (.slice a4 (lk.length + 1) c4)) 3 1 oa k oc (nums ok) := HF3.out.at_ (nmI oa k oc ok) (by simp)
                 have HO3 := Lib.hid hO3
                 clear hO' hG' hq hms hMt hTb hpos hO3 hMlt hz1 ha4M hf hM hfa c0 c0' x0' x0
                 refine hK _ _ ?_; clear hK K; (try simp only [Act.put, List.setIfInBounds_toArray, List.set_cons_zero, List.set_cons_succ]))
              | (refine ord_pure rfl rfl rfl (fun K hK => ?_); go_big_quiet_op; refine hK _ ?_; clear hK K)
                                                                | (refine ord_skip rfl rfl ?_; simp only [Act.put, List.setIfInBounds_toArray, List.set_cons_zero, List.set_cons_succ])
                                                                | (refine ord_held rfl rfl rfl (trivial) (fun K hK => ?_); apply Exists.intro; refine ⟨fun w' hs => ?_, hK _ ?_⟩; (revert hs; dsimp only; (try simp only [and_imp]); intros; go_simp; rfl); clear hK K)
                                                                | (refine ord_keep rfl rfl (trivial) (fun K hK => ?_))
                                                                | (refine ord_drop rfl rfl (fun K hK => ?_))
                                                                | (refine ord_nil ?_)
              | (at_builtin; refine wpL_appendN (us := [.int .i64 lk.length]) rfl (.tmp 60) (.tmp 62) 39 rfl tiI rfl HO3.out rfl rfl rfl (by show (k + 1) * _ ≤ _; omega) (by show k + 1 ≤ _; unfold maxLen; omega) ?_; intro a5 c5 w4 hO' hG' _
                 have HF4 : Hid (Fam 0 w4 [rbI M a4 c4 (lk ++ [x]), nmI a5 (k + 1) c5 (ok ++ [lk.length])]) := Lib.hid (Fam.upd (l1 := [rbI M a4 c4 (lk ++ [x])]) (l2 := []) (i := nmI oa k oc ok) HF3.out hG'.mod (by
                   show Mine.Own w4 _ 1 a5 (k + 1) c5 (nums (ok ++ [lk.length]))
                   unfold nums; rw [List.map_append]; exact hO') (fun b hb => hG'.pos.elim (fun e => .inl (by show blk oa = some b; rw [← e]; exact hb)) (fun ⟨g, e, hg⟩ => by
                     have hb : blk a5 = some b := hb
                     rw [e] at hb; cases hb; exact .inr hg)))
                 have HM4 : Hid (Mod (fun b => b = M ∨ blk a = some b) w w4) := Lib.hid (HM3.out.step hG'.mod (fun b hb e => by have := hfo.out b e; omega))
                 have HFO4 : Hid (∀ b, blk a5 = some b → w.heap.size ≤ b) := Lib.hid (fun b hb => by
                   rcases hG'.pos with e | ⟨g, e, hg⟩
                   · rw [e] at hb; exact hfo.out b hb
                   · have := HM3.out.size; rw [e] at hb; cases hb; omega)
                 clear hO' hG' hfo fz d2))
            go_roundw
            case rel => exact ⟨k + 1, a5, c5, a4, c4, by go_num, hlt, rfl, by rw [HTK.out, HST.out.1, HST.out.2]; exact HF4, HM4, HFA4, HFO4⟩
            case measure => simp [intOf]; omega
        · obtain rfl : k = xs.length := by omega
          rw [List.take_length] at hf
          go_wp2_with fail
          exact bodyPost_ret (v := .tuple #[.slice oa xs.length oc, .int .i64 0]) (by simp [results, Try.results17, go_sem]) rfl ⟨fun h => by (rw [HLX.out] at h; cases h), fun _ => ⟨oa, oc, a', c', rfl, hf.out, hM.out, hfa.out, hfo.out⟩⟩
end Go.Proofs.Ytcmgeiohcgngeaa
