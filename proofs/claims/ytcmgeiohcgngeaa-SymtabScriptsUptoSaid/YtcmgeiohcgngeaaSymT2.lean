/-
  Put, walked; the document's Put.
-/
import Derived.Test.YtcmgeiohcgngeaaSymT1
import Derived.Test.YtcmgeiohcgngeaaOrdA
import Derived.Test.YtcmgeiohcgngeaaSym
namespace Go.Proofs.Ytcmgeiohcgngeaa
open Go Go.RowKit Go.Mine Go.Maps
set_option linter.unusedVariables false
set_option maxHeartbeats 8000000
set_option maxRecDepth 100000

def tbI (T : Nat) (a : Option Addr) (c B : Nat) (l : List ByteArray) : It :=
  ⟨fun b => b = T ∨ blk a = some b ∨ b = B, fun w => TbAt w T a c B l, fun S w w' h m hs => h.mod m (hs T (.inl rfl)) (fun b hb => hs b (.inr (.inl hb))) (hs B (.inr (.inr rfl))), fun w h b hb => by
    rcases hb with rfl | hb | rfl
    · exact h.ltT
    · exact h.own.lt b hb
    · exact h.map.lt⟩
def rbI (M : Nat) (a : Option Addr) (c : Nat) (l : List ByteArray) : It :=
  ⟨fun b => b = M ∨ blk a = some b, fun w => RbAt w M a c l, fun S w w' h m hs => h.mod m (hs M (.inl rfl)) (fun b hb => hs b (.inr hb)), fun w h b hb => by
    rcases hb with rfl | hb
    · exact h.ltM
    · exact h.own.lt b hb⟩
def nums (l : List Nat) : List Value := l.map fun n => .int .i64 (n : Nat)
@[simp] theorem nums_length (l : List Nat) : (nums l).length = l.length := by simp [nums]
def nmI (a : Option Addr) (n c : Nat) (l : List Nat) : It := ownI 3 1 a n c (nums l)
theorem tiI : TI Try.prog 39 3 1 8 := TI.mk' (z := .int .i64 0) (by kernel_rfl) (by kernel_rfl) rfl (by omega)
theorem putLong_any (x : ByteArray) (w : World) (hx : x.size < 2 ^ 60) : Calls Try.prog 30 #[.string x] w fun e w' => e = .returned (.bool (decide (4096 < x.size))) ∧ w = w' := by
  by_cases h : 4096 < x.size
  · have e : decide (4096 < x.size) = true := decide_eq_true h
    rw [e]
    clear e
    go_enter Try.func30, Try.ntmps30
    go_wp2_with fail
    go_ret
    exact ⟨ret_bool (by simp; omega), rfl⟩
  · have e : decide (4096 < x.size) = false := decide_eq_false h
    rw [e]
    clear e
    go_enter Try.func30, Try.ntmps30
    go_wp2_with fail
    go_ret
    exact ⟨ret_bool (by simp; omega), rfl⟩
theorem indexLong_any (ta : Option Addr) (tc : Nat) (xs : List ByteArray) (w : World) (hr : Rd w ta (sts xs)) (hn : xs.length < 2 ^ 40) (hs : ∀ x ∈ xs, x.size < 2 ^ 60) :
    Calls Try.prog 41 #[.slice ta xs.length tc, .func (.func 30) #[] #[]] w fun e w' => ∃ z : Int, e = .returned (.int .i64 z) ∧ (0 ≤ z ↔ longT xs = true) ∧ w = w' := by
  have HR := Lib.hid hr; have HS := Lib.hid hs
  clear hr hs
  go_enter Try.func41, Try.ntmps41
  go_wp2_with fail
  go_loopw [5, 8] (fun _ iv wr => ∃ k : Nat, iv = .int .i64 k ∧ k ≤ xs.length ∧ Hid (∀ x ∈ xs.take k, ¬ 4096 < x.size) ∧ wr = w) (fun _ iv _ => xs.length - (intOf iv).toNat)
  case atStart => exact ⟨0, rfl, Nat.zero_le _, Lib.hid (fun x hx => by simp at hx), rfl⟩
  case round =>
    obtain ⟨k, rfl, hk, hno, rfl⟩ := hrel
    by_cases hlt : k < xs.length
    · obtain ⟨b, o, rfl, x0⟩ := str_cell HR.out hlt
      have hxs := HS.out _ (List.getElem_mem hlt)
      have htk : xs.take (k + 1) = xs.take k ++ [xs[k]] := List.take_succ_eq_append_getElem hlt
      have hm := List.getElem_mem hlt
      obtain ⟨x, hx⟩ : ∃ x, x = xs[k] := ⟨_, rfl⟩
      rw [← hx] at x0 hxs htk hm
      have HTK := Lib.hid htk; have HMX := Lib.hid hm; have HXS := Lib.hid hxs
      clear hx htk hm hxs
      go_wp2_with fail
      refine (putLong_any x wr HXS.out).mono ?_
      rintro e w' ⟨rfl, rfl⟩
      by_cases hl : 4096 < x.size
      · have hlx : longT xs = true := List.any_eq_true.2 ⟨x, HMX.out, by simpa using hl⟩
        have HLX := Lib.hid hlx
        rw [decide_eq_true hl]
        clear hl hlx
        go_wp2_with fail
        go_ret
        exact ⟨_, rfl, ⟨fun _ => HLX.out, fun _ => by omega⟩, rfl⟩
      · have HL := Lib.hid hl
        rw [decide_eq_false hl]
        clear hl
        go_wp2_with fail
        go_roundw
        case rel => exact ⟨k + 1, by go_num, hlt, Lib.hid (fun y hy => by
          rw [HTK.out] at hy
          rcases List.mem_append.1 hy with hy | hy
          · exact hno.out y hy
          · rw [List.mem_singleton] at hy; subst hy; exact HL.out), trivial⟩
        case measure => simp [intOf]; omega
    · obtain rfl : k = xs.length := by omega
      have hlx : longT xs = false := List.any_eq_false.2 (fun x hx => by
        have := hno.out x (by rw [List.take_length]; exact hx)
        simpa using this)
      have HLX := Lib.hid hlx
      clear hlx
      go_wp2_with fail
      go_ret
      exact ⟨_, rfl, ⟨fun h => absurd h (by decide), fun h => by rw [HLX.out] at h; cases h⟩, rfl⟩
theorem containsLong_any (ta : Option Addr) (tc : Nat) (xs : List ByteArray) (w : World) (hr : Rd w ta (sts xs)) (hn : xs.length < 2 ^ 40) (hs : ∀ x ∈ xs, x.size < 2 ^ 60) :
    Calls Try.prog 29 #[.slice ta xs.length tc, .func (.func 30) #[] #[]] w fun e w' => e = .returned (.bool (longT xs)) ∧ w = w' := by
  have HI := Lib.hid (indexLong_any ta tc xs w hr hn hs)
  clear hr hs
  go_enter Try.func29, Try.ntmps29
  go_wp2_with fail
  refine HI.out.mono ?_
  rintro e w' ⟨z, rfl, hz, rfl⟩
  by_cases h0 : 0 ≤ z
  · have E := Lib.hid (hz.1 h0)
    clear hz
    go_wp2_with fail
    go_ret
    rw [E.out]
    exact ⟨ret_bool (by simp), rfl⟩
  · have e : longT xs = false := by
      cases h : longT xs with
      | false => rfl
      | true => exact absurd (hz.2 h) h0
    have E := Lib.hid e
    clear e hz
    go_wp2_with fail
    go_ret
    rw [E.out]
    exact ⟨ret_bool (by simp; omega), rfl⟩
theorem put_nil (v : Value) (w : World) : Calls Try.prog 8 #[.pointer none, v] w fun e w' => e = .returned (.tuple #[.slice none 0 0, .int .i64 1]) ∧ w = w' := by
  go_enter Try.func8, Try.ntmps8
  go_wp2_with (go_at_call 28; refine (none_nil _).mono ?_; rintro e w' ⟨rfl, rfl⟩)
  exact bodyPost_ret (v := .tuple #[.slice none 0 0, .int .i64 1]) (by simp [results, Try.results8, go_sem]) rfl ⟨rfl, rfl⟩
theorem put_zero (T : Nat) (u v : Value) (w : World) (h : w.cell? ⟨T, 1, none⟩ = some (.map none)) : Calls Try.prog 8 #[.pointer (some ⟨T, 0, none⟩), v] w fun e w' => e = .returned (.tuple #[.slice none 0 0, .int .i64 1]) ∧ w = w' := by
  have HN := Lib.hid (none_zero T u w h)
  clear h
  go_enter Try.func8, Try.ntmps8
  go_wp2_with (go_at_call 28; refine HN.out.mono ?_; rintro e w' ⟨rfl, rfl⟩)
  exact bodyPost_ret (v := .tuple #[.slice none 0 0, .int .i64 1]) (by simp [results, Try.results8, go_sem]) rfl ⟨rfl, rfl⟩
theorem put_long {T : Nat} {a : Option Addr} {c B : Nat} {l : List ByteArray} {w : World} (h : TbAt w T a c B l) (ta : Option Addr) (tc : Nat) (xs : List ByteArray) (hr : Rd w ta (sts xs)) (hn : xs.length < 2 ^ 40) (hs : ∀ x ∈ xs, x.size < 2 ^ 60) (hl : longT xs = true) :
    Calls Try.prog 8 #[.pointer (some ⟨T, 0, none⟩), .slice ta xs.length tc] w fun e w' => e = .returned (.tuple #[.slice none 0 0, .int .i64 3]) ∧ w = w' := by
  have HN := Lib.hid (none_tb h)
  have hc := containsLong_any ta tc xs w hr hn hs
  rw [hl] at hc
  have HC := Lib.hid hc
  clear h hr hs hl hc
  go_enter Try.func8, Try.ntmps8
  go_wp2_with (first
    | (go_at_call 28; refine HN.out.mono ?_; rintro e w' ⟨rfl, rfl⟩)
    | (go_at_call 29; refine HC.out.mono ?_; rintro e w' ⟨rfl, rfl⟩))
  exact bodyPost_ret (v := .tuple #[.slice none 0 0, .int .i64 3]) (by simp [results, Try.results8, go_sem]) rfl ⟨rfl, rfl⟩
/-- what a Put leaves -/
def PutPost (T : Nat) (a : Option Addr) (B : Nat) (l xs : List ByteArray) (w : World) (e : Ending) (w' : World) : Prop :=
  ∃ oa oc a' c', e = .returned (.tuple #[.slice oa xs.length oc, .int .i64 0]) ∧ Fam 0 w' [tbI T a' c' B (putT l xs).2, nmI oa xs.length oc (putT l xs).1] ∧ Mod (fun b => b = T ∨ blk a = some b ∨ b = B) w w' ∧
    (∀ b, blk a' = some b → blk a = some b ∨ w.heap.size ≤ b) ∧ ∀ b, blk oa = some b → w.heap.size ≤ b
theorem put_tb {T : Nat} {a : Option Addr} {c B : Nat} {l : List ByteArray} {w : World} (h : TbAt w T a c B l) (ta : Option Addr) (tc : Nat) (xs : List ByteArray) (hr : Rd w ta (sts xs)) (hn : xs.length ≤ 2 ^ 20) (hln : l.length ≤ 2 ^ 20) (hs : ∀ x ∈ xs, x.size < 2 ^ 60) (hl : longT xs = false)
    (hsep : ∀ b, blkX ta xs = some b → ¬ (b = T ∨ blk a = some b ∨ b = B)) :
    Calls Try.prog 8 #[.pointer (some ⟨T, 0, none⟩), .slice ta xs.length tc] w (PutPost T a B l xs w) := by
  have HN := Lib.hid (none_tb h)
  have hc := containsLong_any ta tc xs w hr (by omega) hs
  rw [hl] at hc
  have HC := Lib.hid hc
  have HR := Lib.hid hr; have HL := Lib.hid (longT_false hl); have HSEP := Lib.hid hsep; have H := Lib.hid h
  have c0 := h.c0
  have HD := Lib.hid (decide_eq_false (show ¬ ((4194304 : Int) - l.length < xs.length) by omega))
  clear h hr hs hl hc hsep
  go_enter Try.func8, Try.ntmps8
  go_wp2_with (first
    | (go_at_call 28; refine HN.out.mono ?_; rintro e w' ⟨rfl, rfl⟩)
    | (go_at_call 29; refine HC.out.mono ?_; rintro e w' ⟨rfl, rfl⟩))
  refine wp_region_ord (fun w' => w'.cell? ⟨T, 0, none⟩ = some (.slice a l.length c)) [(0, 0), (0, 1), (0, 2), (0, 3), (0, 4), (1, 5), (0, 6), (0, 7), (0, 8), (0, 9), (0, 10), (0, 11), (0, 13), (0, 14), (0, 15), (1, 16), (0, 17), (0, 18), (2, 12), (0, 19), (0, 20), (0, 21)] (by kernel_rfl) (by kernel_rfl) ?_
  go_wp2_with (first
    | (refine ord_pure rfl rfl rfl (fun K hK => ?_); go_big_quiet_op; refine hK _ ?_; clear hK K)
                                                                | (refine ord_skip rfl rfl ?_; simp only [Act.put, List.setIfInBounds_toArray, List.set_cons_zero, List.set_cons_succ])
                                                                | (refine ord_held rfl rfl rfl (c0) (fun K hK => ?_); apply Exists.intro; refine ⟨fun w' hs => ?_, hK _ ?_⟩; (revert hs; dsimp only; (try simp only [and_imp]); intros; go_simp; rfl); clear hK K)
                                                                | (refine ord_keep rfl rfl (c0) (fun K hK => ?_))
                                                                | (refine ord_drop rfl rfl (fun K hK => ?_))
                                                                | (refine ord_nil ?_))
  rw [HD.out]
  go_wp2_with (first
    | (refine ord_pure rfl rfl rfl (fun K hK => ?_); go_big_quiet_op; refine hK _ ?_; clear hK K)
                                                                | (refine ord_skip rfl rfl ?_; simp only [Act.put, List.setIfInBounds_toArray, List.set_cons_zero, List.set_cons_succ])
                                                                | (refine ord_held rfl rfl rfl (c0) (fun K hK => ?_); apply Exists.intro; refine ⟨fun w' hs => ?_, hK _ ?_⟩; (revert hs; dsimp only; (try simp only [and_imp]); intros; go_simp; rfl); clear hK K)
                                                                | (refine ord_keep rfl rfl (c0) (fun K hK => ?_))
                                                                | (refine ord_drop rfl rfl (fun K hK => ?_))
                                                                | (refine ord_nil ?_))
  clear c0 HC HN HD
  have HF0 : Hid (Fam 0 w.drew [tbI T a c B l, nmI none 0 0 []]) := Lib.hid ((Fam.one (i := tbI T a c B l) (H.out.mod0 (Mod.refl _ w).drew) (fun _ _ => Nat.zero_le _) (Nat.zero_le _)).push (Mod.refl _ _) (i := nmI none 0 0 []) (Mine.Own.nil _ _ _) (fun b hb => by cases hb))
  go_loopw [6, 8, 9, 10, 41] (fun ov _ _ _ iv wr => ∃ (k : Nat) (oa : Option Addr) (oc : Nat) (a' : Option Addr) (c' : Nat), iv = .int .i64 k ∧ k ≤ xs.length ∧ ov = .slice oa k oc ∧
    Hid (Fam 0 wr [tbI T a' c' B (putT l (xs.take k)).2, nmI oa k oc (putT l (xs.take k)).1]) ∧ Hid (Mod (fun b => b = T ∨ blk a = some b ∨ b = B) w wr) ∧ Hid (∀ b, blk a' = some b → blk a = some b ∨ w.heap.size ≤ b) ∧ Hid (∀ b, blk oa = some b → w.heap.size ≤ b)) (fun _ _ _ _ iv _ => xs.length - (intOf iv).toNat)
  case atStart => exact ⟨0, none, 0, a, c, rfl, Nat.zero_le _, rfl, HF0, Lib.hid (Mod.refl _ w).drew, Lib.hid (fun b hb => .inl hb), Lib.hid (fun b hb => by cases hb)⟩
  case round =>
    obtain ⟨k, oa, oc, a', c', rfl, hk, rfl, hf, hM, hfa, hfo⟩ := hrel
    by_cases hlt : k < xs.length
    · obtain ⟨tb, to, rfl, x0⟩ := str_cell (rd_modX HR.out hM.out HSEP.out) hlt
      have htk := putT_snoc l (xs.take k) xs[k]
      rw [← List.take_succ_eq_append_getElem hlt] at htk
      have hxl := HL.out _ (List.getElem_mem hlt)
      obtain ⟨x, hx⟩ : ∃ x, x = xs[k] := ⟨_, rfl⟩
      rw [← hx] at x0 htk hxl
      have hle := putT_le l (xs.take k)
      rw [List.length_take] at hle
      obtain ⟨lk, hlk⟩ : ∃ lk, lk = (putT l (xs.take k)).2 := ⟨_, rfl⟩
      obtain ⟨ok, hok⟩ : ∃ ok, ok = (putT l (xs.take k)).1 := ⟨_, rfl⟩
      rw [← hlk] at htk hle hf
      rw [← hok] at htk hf
      have hlk2 : lk.length < 2 ^ 22 := by omega
      have HTK := Lib.hid htk
      clear hx hlk hok htk hle
      have ht : TbAt wr T a' c' B lk := hf.out.at_ (tbI T a' c' B lk) (by simp)
      have c1 := ht.c1
      have hlook := ht.map.look x (by unfold maxLen; omega)
      have HT := Lib.hid ht
      have ho : Mine.Own wr 3 1 oa k oc (nums ok) := hf.out.at_ (nmI oa k oc ok) (by simp)
      have HO := Lib.hid ho
      clear ht ho
      cases hp : plc lk x with
      | some n =>
        rw [hp] at hlook
        simp only [Option.getD_some, Option.isSome_some] at hlook
        have hnl := plc_lt hp
        have HST : Hid (numT lk x = n ∧ addT lk x = lk) := Lib.hid ⟨by unfold numT; rw [hp]; rfl, by unfold addT; rw [if_pos (by rw [hp]; rfl)]⟩
        clear hp
        go_wp2_with (at_builtin; refine wpL_appendN (us := [.int .i64 n]) rfl (.tmp 77) (.tmp 79) 39 rfl tiI rfl HO.out rfl rfl rfl (by show (k + 1) * _ ≤ _; omega) (by show k + 1 ≤ _; unfold maxLen; omega) ?_; intro a4 c4 w4 hO' hG' _
                     have HF4 : Hid (Fam 0 w4 [tbI T a' c' B lk, nmI a4 (k + 1) c4 (ok ++ [n])]) := Lib.hid (Fam.upd (l1 := [tbI T a' c' B lk]) (l2 := []) (i := nmI oa k oc ok) hf.out hG'.mod (by
                       show Mine.Own w4 _ 1 a4 (k + 1) c4 (nums (ok ++ [n]))
                       unfold nums; rw [List.map_append]; exact hO') (fun b hb => hG'.pos.elim (fun e => .inl (by show blk oa = some b; rw [← e]; exact hb)) (fun ⟨g, e, hg⟩ => by
                         have hb : blk a4 = some b := hb
                         rw [e] at hb; cases hb; exact .inr hg)))
                     have HM4 : Hid (Mod (fun b => b = T ∨ blk a = some b ∨ b = B) w w4) := Lib.hid (hM.out.step hG'.mod (fun b hb e => by have := hfo.out b e; omega))
                     have HFO4 : Hid (∀ b, blk a4 = some b → w.heap.size ≤ b) := Lib.hid (fun b hb => by
                       rcases hG'.pos with e | ⟨g, e, hg⟩
                       · rw [e] at hb; exact hfo.out b hb
                       · have := hM.out.size; rw [e] at hb; cases hb; omega)
                     clear hO' hG' hf hM hfo)
        go_roundw
        case rel => exact ⟨k + 1, a4, c4, a', c', by go_num, hlt, rfl, by rw [HTK.out, HST.out.1, HST.out.2]; exact HF4, HM4, hfa, HFO4⟩
        case measure => simp [intOf]; omega
      | none =>
        rw [hp] at hlook
        simp only [Option.getD_none, Option.isSome_none] at hlook
        have HST : Hid (numT lk x = lk.length ∧ addT lk x = lk ++ [x]) := Lib.hid ⟨by unfold numT; rw [hp]; rfl, by unfold addT; rw [if_neg (by rw [hp]; simp)]⟩
        obtain ⟨w1, hrun, hm1, hg1⟩ := HT.out.map.put x (by unfold maxLen; omega) (by omega) hp
        have mg : Mod (fun b => b = B) wr w1 := (Mod.refl (fun b => b = B) wr).grown hg1 (fun k e _ => by cases e; rfl)
        have c0 := HT.out.c0
        have d0 := mg.cell c0 HT.out.neT
        have HW1 := Lib.hid mg; have HMP := Lib.hid hm1
        clear hp hm1 hg1 mg
        have hOw := HT.out.own.mod HW1.out (fun b hb e => HT.out.neB (by rw [hb, e]))
        have HOW := Lib.hid hOw
        clear hOw
        go_wp2_with (first
          | (at_builtin; refine wpL_appendN (us := [.string x]) rfl (.tmp 71) (.tmp 73) 30 rfl ti22 rfl HOW.out rfl rfl rfl (by show (lk.length + 1) * _ ≤ _; omega) (by show lk.length + 1 ≤ _; unfold maxLen; omega) ?_; intro a4 c4 w2 hO' hG' _
             have hq := hG'.mod.at (HW1.out.at HT.out.box HT.out.neT) HT.out.ne
             have fz : w2.frozen? ⟨T, 0, none⟩ = false := frozen_at hq
             have d2 := cell_at (j := 0) hq rfl
             have hTlt : T < wr.heap.size := HT.out.ltT
             have hBlt : B < wr.heap.size := HT.out.map.lt
             have hz1 := HW1.out.size
             have ha4T := hG'.ne (b := T) (by omega) HT.out.ne
             have ha4B := hG'.ne (b := B) (by omega) HT.out.neB
             have hms : Mod (fun b => b = T) w2 (w2.setCell ⟨T, 0, none⟩ (.slice a4 (lk.length + 1) c4)) := (Mod.refl (fun b => b = T) w2).setCell (p := ⟨T, 0, none⟩) (fun _ => rfl) _
             have hMt : Mod (fun b => b = T ∨ blk a' = some b ∨ b = B) wr (w2.setCell ⟨T, 0, none⟩ (.slice a4 (lk.length + 1) c4)) :=
               ((HW1.out.mono (fun _ _ e => .inr (.inr e))).step hG'.mod (fun _ _ e => .inr (.inl e))).step hms (fun _ _ e => .inl e)
             have hTb : TbAt (w2.setCell ⟨T, 0, none⟩ (.slice a4 (lk.length + 1) c4)) T a4 c4 B (lk ++ [x]) := by
               refine ⟨?_, ?_, ?_, ha4T, ha4B, HT.out.neT⟩
               · have := heap_setCell_at (j := 0) (.slice a4 (lk.length + 1) c4) hq
                 rw [List.length_append]
                 exact this
               · rw [List.length_append]
                 have h := hO'.mod hms (fun b hb e => ha4T (by rw [hb, e]))
                 unfold sts at h ⊢
                 rw [List.map_append]
                 exact h
               · exact (HMP.out.mod hG'.mod (fun e => HT.out.neB e)).mod hms (fun e => HT.out.neT e.symm)
             have hpos : ∀ b, blk a4 = some b → blk a' = some b ∨ wr.heap.size ≤ b := fun b hb => by
               rcases hG'.pos with e | ⟨g, e, hg⟩
               · exact .inl (by rw [← e]; exact hb)
               · rw [e] at hb; cases hb; exact .inr (by omega)
             have HF3 : Hid (Fam 0 (w2.setCell ⟨T, 0, none⟩ (.slice a4 (lk.length + 1) c4)) [tbI T a4 c4 B (lk ++ [x]), nmI oa k oc ok]) := Lib.hid (hf.out.upd0 (i := tbI T a' c' B lk) hMt hTb (fun b hb => by
               rcases hb with hb | hb | hb
               · exact .inl (.inl hb)
               · rcases hpos b hb with e | e
                 · exact .inl (.inr (.inl e))
                 · exact .inr e
               · exact .inl (.inr (.inr hb))))
             have HM3 : Hid (Mod (fun b => b = T ∨ blk a = some b ∨ b = B) w (w2.setCell ⟨T, 0, none⟩ (.slice a4 (lk.length + 1) c4))) := Lib.hid (hM.out.step hMt (fun b hb e => by
               rcases e with e | e | e
               · exact .inl e
               · rcases hfa.out b e with e | e
                 · exact .inr (.inl e)
                 · omega
               · exact .inr (.inr e)))
             have HFA4 : Hid (∀ b, blk a4 = some b → blk a = some b ∨ w.heap.size ≤ b) := Lib.hid (fun b hb => by
               rcases hpos b hb with e | e
               · exact hfa.out b e
               · have := hM.out.size; exact .inr (by omega))
             have hO3 : Mine.Own (w2.setCell ⟨T, 0, none⟩ (.slice a4 (lk.length + 1) c4)) 3 1 oa k oc (nums ok) := HF3.out.at_ (nmI oa k oc ok) (by simp)
             have HO3 := Lib.hid hO3
             clear hO' hG' hq hms hMt hTb hpos hO3 hTlt hBlt hz1 ha4T ha4B hf hM hfa c0 d0 c1 hrun hlook)
          | (at_builtin; refine wpL_appendN (us := [.int .i64 lk.length]) rfl (.tmp 77) (.tmp 79) 39 rfl tiI rfl HO3.out rfl rfl rfl (by show (k + 1) * _ ≤ _; omega) (by show k + 1 ≤ _; unfold maxLen; omega) ?_; intro a5 c5 w4 hO' hG' _
             have HF4 : Hid (Fam 0 w4 [tbI T a4 c4 B (lk ++ [x]), nmI a5 (k + 1) c5 (ok ++ [lk.length])]) := Lib.hid (Fam.upd (l1 := [tbI T a4 c4 B (lk ++ [x])]) (l2 := []) (i := nmI oa k oc ok) HF3.out hG'.mod (by
               show Mine.Own w4 _ 1 a5 (k + 1) c5 (nums (ok ++ [lk.length]))
               unfold nums; rw [List.map_append]; exact hO') (fun b hb => hG'.pos.elim (fun e => .inl (by show blk oa = some b; rw [← e]; exact hb)) (fun ⟨g, e, hg⟩ => by
                 have hb : blk a5 = some b := hb
                 rw [e] at hb; cases hb; exact .inr hg)))
             have HM4 : Hid (Mod (fun b => b = T ∨ blk a = some b ∨ b = B) w w4) := Lib.hid (HM3.out.step hG'.mod (fun b hb e => by have := hfo.out b e; omega))
             have HFO4 : Hid (∀ b, blk a5 = some b → w.heap.size ≤ b) := Lib.hid (fun b hb => by
               rcases hG'.pos with e | ⟨g, e, hg⟩
               · rw [e] at hb; exact hfo.out b hb
               · have := HM3.out.size; rw [e] at hb; cases hb; omega)
             clear hO' hG' hfo fz d2))
        go_roundw
        case rel => exact ⟨k + 1, a5, c5, a4, c4, by go_num, hlt, rfl, by rw [HTK.out, HST.out.1, HST.out.2]; exact HF4, HM4, HFA4, HFO4⟩
        case measure => simp [intOf]; omega
    · obtain rfl : k = xs.length := by omega
      rw [List.take_length] at hf
      go_wp2_with fail
      exact bodyPost_ret (v := .tuple #[.slice oa xs.length oc, .int .i64 0]) (by simp [results, Try.results8, go_sem]) rfl ⟨oa, oc, a', c', rfl, hf.out, hM.out, hfa.out, hfo.out⟩
end Go.Proofs.Ytcmgeiohcgngeaa
