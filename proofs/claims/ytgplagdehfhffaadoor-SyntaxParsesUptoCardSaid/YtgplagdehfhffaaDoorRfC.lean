/-
  The document's reader: how it begins.
-/
import Derived.Test.YtgplagdehfhffaaDoorRfB
import Derived.Test.YtgplagdehfhffaaDoorPar3
namespace Go.Proofs.YtgplagdehfhffaaDoor
open Go Go.RowKit Go.Mine
set_option linter.unusedVariables false
set_option maxHeartbeats 1000000
set_option maxRecDepth 100000

theorem toksC_one (ts : List Tok) : ∀ u ∈ toksC ts, u.oneCell' = true := by
  intro u hu
  simp only [toksC, List.mem_flatMap, tokC] at hu
  obtain ⟨t, _, h⟩ := hu
  simp at h
  rcases h with rfl | rfl | rfl <;> rfl
/-- the reader's block while its list is made -/
structure BgI (w W : World) (gb : Nat) (S : Toks) (a : Option Addr) (n c : Nat) (xs : List Value) : Prop where
  md : Mod (fun _ => False) w W
  hg : w.heap.size ≤ gb
  b : W.heap[gb]? = some (.cells #[.slice a n c, .int .i64 S.fault, .int .i64 0, .int .i64 0, .int .i64 0, .bool false] 98 (0, 0))
  own : Mine.Own W 155 3 a n c xs
  ne : ∀ b, blk a = some b → w.heap.size ≤ b ∧ b ≠ gb
section
variable {w W W1 W2 : World} {gb n c n' c' : Nat} {S : Toks} {a a' : Option Addr} {xs xs' : List Value}
theorem BgI.old (h : BgI w W gb S a n c xs) (m : Mod (fun _ => False) W W2) (g : Grow W2 a W1 a') : W1.heap[gb]? = some (.cells #[.slice a n c, .int .i64 S.fault, .int .i64 0, .int .i64 0, .int .i64 0, .bool false] 98 (0, 0)) :=
  g.mod.at (m.at h.b id) (fun e => (h.ne _ e).2 rfl)
theorem BgI.step (h : BgI w W gb S a n c xs) (m : Mod (fun _ => False) W W2) (g : Grow W2 a W1 a') (ho : Mine.Own W1 155 3 a' n' c' xs') : BgI w (W1.setCell ⟨gb, 0, none⟩ (.slice a' n' c')) gb S a' n' c' xs' := by
  have hl := (Array.getElem?_eq_some_iff.1 h.b).1
  have hne : ∀ b, blk a' = some b → w.heap.size ≤ b ∧ b ≠ gb := by
    intro b hb
    rcases g.pos with e | ⟨b', e, hb'⟩
    · rw [e] at hb; exact h.ne b hb
    · rw [e] at hb; cases hb; have := m.size; have := h.hg; omega
  have m4 : Mod (fun b => b = gb) W1 (W1.setCell ⟨gb, 0, none⟩ (.slice a' n' c')) := (Mod.refl (fun b => b = gb) W1).setCell (p := ⟨gb, 0, none⟩) (fun _ => rfl) _
  refine ⟨((h.md.trans m).step g.mod (fun i hi e => by have := (h.ne i e).1; omega)).step m4 (fun i hi e => by have := h.hg; omega), h.hg, heap_setCell_at (j := 0) (.slice a' n' c') (h.old m g), ho.mod m4 (fun b hb e => (hne b hb).2 e), hne⟩
end
def RStart (S : Toks) (w : World) (e : Ending) (w' : World) : Prop :=
  ∃ R : REnv, R.S = S ∧ e = .returned (.pointer (some ⟨R.b, 0, none⟩)) ∧ RSt w' R 0 false ∧ Mod (fun _ => False) w w' ∧ w.heap.size ≤ R.b
theorem begin_any (a0 : Option Addr) (c0 : Nat) (l : List UInt8) (w : World) (hR : Rd w a0 (bts l)) (hl : ¬ 65536 < l.length) :
    Calls Tryd.prog 51 #[.slice a0 l.length c0] w (RStart (toksOf ⟨l.toArray⟩) w) := by
  have hf := found_any a0 c0 l w hR (by omega)
  rw [foundL_short (s := ⟨l.toArray⟩) hl] at hf
  have hwf := toksOf_wf ⟨l.toArray⟩
  have hlen : (toksOf ⟨l.toArray⟩).ts.length ≤ l.length + 1 := toksOf_len ⟨l.toArray⟩
  have hsz := toksOf_size ⟨l.toArray⟩ (show l.length < 2 ^ 30 by omega)
  have hpos : (scanL ⟨l.toArray⟩).2.1 = (scanL ⟨l.toArray⟩).2.1 := rfl
  obtain ⟨pos, hp⟩ : ∃ pos, pos = (scanL ⟨l.toArray⟩).2.1 := ⟨_, rfl⟩
  obtain ⟨S, hS⟩ : ∃ S, S = toksOf ⟨l.toArray⟩ := ⟨_, rfl⟩
  have hfin : S.fin = if S.fault = 0 then l.length else pos := by rw [hS, hp]; rfl
  have HF : Hid (Calls Tryd.prog 99 #[.slice a0 l.length c0] w fun e w' => ∃ (a' : Option Addr) (c' : Nat), e = .returned (.tuple #[.slice a' S.ts.length c', .int .i64 pos, .int .i64 S.fault]) ∧
      Mine.Own w' 155 3 a' S.ts.length c' (toksC S.ts) ∧ Mod (fun _ => False) w w' ∧ (∀ b, blk a' = some b → w.heap.size ≤ b)) := by rw [hS, hp]; exact hf
  rw [← hS] at hwf hlen hsz ⊢
  have HSZ := Lib.hid hsz
  have HFIN := Lib.hid hfin
  have HWF := Lib.hid hwf
  have hfl := hwf.fault
  have hlen2 : S.ts.length < 2 ^ 20 := by omega
  clear hf hR hwf hsz hpos hp hS hfin
  go_enter Tryd.func51, Tryd.ntmps51
  go_wp2_with fail
  refine HF.out.mono ?_
  rintro e w1 ⟨a1, c1, rfl, hO, hM, hfr⟩
  have m2 : Mod (fun _ => False) w1 (w1.alloc (.cells #[.slice none 0 0, .int .i64 S.fault, .int .i64 0, .int .i64 0, .int .i64 0, .bool false] 98)) := (Mod.refl _ w1).alloc _
  have HI : Hid (BgI w (w1.alloc (.cells #[.slice none 0 0, .int .i64 S.fault, .int .i64 0, .int .i64 0, .int .i64 0, .bool false] 98)) w1.heap.size S none 0 0 []) :=
    ⟨hM.trans m2, hM.size, heap_alloc_new w1 _, Mine.Own.nil _ _ _, by simp⟩
  obtain ⟨gb, hgb⟩ : ∃ gb, gb = w1.heap.size := ⟨_, rfl⟩
  have HO2 := Lib.hid (hO.mod m2 (fun _ _ => id))
  have HGB := Lib.hid hgb
  rw [← hgb] at HI
  clear HF hO hM hfr m2 hgb
  by_cases hf0 : S.fault = 0
  · have HF0 := Lib.hid hf0
    have hff : ((S.fault : Int) != 0) = false := by simp [hf0]
    clear hf0
    go_wp2_with (first
      | (at_builtin; refine wpL_append rfl (.tmp 20) (.tmp 21) 96 96 rfl ti27 rfl (Mine.Own.nil _ _ _) rfl (Src.ofRd ti27.ht S.ts.length c1 HO2.out.rd (toksC_length _) (toksC_one _)) (by omega) (by unfold maxLen; omega) ?_; intro a3 c3 w3 hO3 hG3 _
         simp only [Nat.zero_add, List.nil_append] at hO3
         have hb3 := HI.out.old (Mod.refl _ _) hG3
         have f30 : w3.frozen? ⟨gb, 0, none⟩ = false := frozen_at hb3
         have y30 := cell_at (j := 0) hb3 rfl
         have y31 := cell_at (j := 1) hb3 rfl
         have HI4 := Lib.hid (HI.out.step (Mod.refl _ _) hG3 hO3)
         rw [← HGB.out]
         clear hO3 hG3 hb3 HO2)
      | (at_builtin; refine wpL_append rfl (.tmp 45) (.tmp 49) 96 96 rfl ti27 rfl (HI4.out.own.mod ((Mod.refl (fun _ => False) _).alloc _) (fun _ _ => id)) rfl (Src.ofRd ti27.ht 1 1 (Rd.news _ [_, _, _] 155) (by simp) (by simp [Value.oneCell'])) (by omega) (by unfold maxLen; omega) ?_; intro a5 c5 w5 hO5 hG5 _
         have m5 : Mod (fun _ => False) (w3.setCell ⟨gb, 0, none⟩ (.slice a3 S.ts.length c3)) ((w3.setCell ⟨gb, 0, none⟩ (.slice a3 S.ts.length c3)).alloc (.cells #[.int .i64 0, .string ⟨#[]⟩, .int .i64 l.length] 155)) := (Mod.refl _ _).alloc _
         have hb5 := HI4.out.old m5 hG5
         have f50 : w5.frozen? ⟨gb, 0, none⟩ = false := frozen_at hb5
         have y50 := cell_at (j := 0) hb5 rfl
         have HI6 := Lib.hid (HI4.out.step m5 hG5 hO5)
         clear hO5 hG5 hb5 m5 HI4 f30 y30 y31)
      | fail)
    go_ret
    have hR : rtoks S = toksC S.ts ++ [.int .i64 0, .string ⟨#[]⟩, .int .i64 l.length] := by
      unfold rtoks
      have h1 := HFIN.out; have h2 := HF0.out
      first
        | rw [if_pos h2] at h1; rw [h1, if_pos h2]
        | rw [if_neg h2] at h1; rw [h1, if_neg h2]
    exact ⟨⟨gb, a5, c5, S⟩, rfl, rfl, ⟨⟨⟨fun e => (HI6.out.ne _ e).2 rfl, hlen2, HSZ.out, HWF.out⟩, by rw [hR]; exact HI6.out.own.rd, HI6.out.b⟩, Nat.zero_le _⟩, HI6.out.md, HI6.out.hg⟩
  · have HF0 := Lib.hid hf0
    have hff : ((S.fault : Int) != 0) = true := by simp [hf0]
    clear hf0
    go_wp2_with (first
      | (at_builtin; refine wpL_append rfl (.tmp 20) (.tmp 21) 96 96 rfl ti27 rfl (Mine.Own.nil _ _ _) rfl (Src.ofRd ti27.ht S.ts.length c1 HO2.out.rd (toksC_length _) (toksC_one _)) (by omega) (by unfold maxLen; omega) ?_; intro a3 c3 w3 hO3 hG3 _
         simp only [Nat.zero_add, List.nil_append] at hO3
         have hb3 := HI.out.old (Mod.refl _ _) hG3
         have f30 : w3.frozen? ⟨gb, 0, none⟩ = false := frozen_at hb3
         have y30 := cell_at (j := 0) hb3 rfl
         have y31 := cell_at (j := 1) hb3 rfl
         have HI4 := Lib.hid (HI.out.step (Mod.refl _ _) hG3 hO3)
         rw [← HGB.out]
         clear hO3 hG3 hb3 HO2)
      | (at_builtin; refine wpL_append rfl (.tmp 34) (.tmp 37) 96 96 rfl ti27 rfl (HI4.out.own.mod ((Mod.refl (fun _ => False) _).alloc _) (fun _ _ => id)) rfl (Src.ofRd ti27.ht 1 1 (Rd.news _ [_, _, _] 155) (by simp) (by simp [Value.oneCell'])) (by omega) (by unfold maxLen; omega) ?_; intro a5 c5 w5 hO5 hG5 _
         have m5 : Mod (fun _ => False) (w3.setCell ⟨gb, 0, none⟩ (.slice a3 S.ts.length c3)) ((w3.setCell ⟨gb, 0, none⟩ (.slice a3 S.ts.length c3)).alloc (.cells #[.int .i64 (-1), .string ⟨#[]⟩, .int .i64 pos] 155)) := (Mod.refl _ _).alloc _
         have hb5 := HI4.out.old m5 hG5
         have f50 : w5.frozen? ⟨gb, 0, none⟩ = false := frozen_at hb5
         have y50 := cell_at (j := 0) hb5 rfl
         have HI6 := Lib.hid (HI4.out.step m5 hG5 hO5)
         clear hO5 hG5 hb5 m5 HI4 f30 y30 y31)
      | fail)
    go_ret
    have hR : rtoks S = toksC S.ts ++ [.int .i64 (-1), .string ⟨#[]⟩, .int .i64 pos] := by
      unfold rtoks
      have h1 := HFIN.out; have h2 := HF0.out
      first
        | rw [if_pos h2] at h1; rw [h1, if_pos h2]
        | rw [if_neg h2] at h1; rw [h1, if_neg h2]
    exact ⟨⟨gb, a5, c5, S⟩, rfl, rfl, ⟨⟨⟨fun e => (HI6.out.ne _ e).2 rfl, hlen2, HSZ.out, HWF.out⟩, by rw [hR]; exact HI6.out.own.rd, HI6.out.b⟩, Nat.zero_le _⟩, HI6.out.md, HI6.out.hg⟩
end Go.Proofs.YtgplagdehfhffaaDoor
/-
  The document's reader: ParseAtom, ParseRule. (printed by mkrefp.py)
-/
namespace Go.Proofs.YtgplagdehfhffaaDoor
open Go Go.RowKit Go.Mine
set_option linter.unusedVariables false
set_option maxHeartbeats 1000000
set_option maxRecDepth 100000

theorem far0 {R : REnv} {w w1 w2 : World} {n : Nat} (hb : w.heap.size ≤ R.b) (m : Mod R.Ch w1 w2) : Mod (Far w) w1 w2 := m.mono fun _ _ e => by unfold REnv.Ch at e; unfold Far; omega
theorem refParseAtom_any (a0 : Option Addr) (c0 : Nat) (l : List UInt8) (w : World) (hR : Rd w a0 (bts l)) (hl : l.length < 2 ^ 30) :
    Calls Tryd.prog 21 #[.slice a0 l.length c0] w (RdPost w (.agg #[.string ⟨#[]⟩, .slice none 0 0]) (atomS ⟨l.toArray⟩) fun r v w' => ∃ s, v = .agg #[.string r.pred, s] ∧ TsG w' w.heap.size s r.terms) := by
  have m0 : Mod (fun _ => False) w (w.alloc (.cells #[.string ⟨#[]⟩, .slice none 0 0] 37)) := (Mod.refl _ w).alloc _
  by_cases hlong : 65536 < l.length
  · have HX := Lib.hid (show atomS ⟨l.toArray⟩ = .error (3, 0) by unfold atomS readL; rw [if_pos (show 65536 < (⟨l.toArray⟩ : ByteArray).size from hlong)])
    have HM := Lib.hid m0
    clear hR m0
    go_enter Tryd.func21, Tryd.ntmps21
    go_wp2
    refine bodyPost_ret (v := .tuple #[.agg #[.string ⟨#[]⟩, .slice none 0 0], .int .i64 0, .int .i64 3]) (by simp [results, Tryd.results21, go_sem]) rfl ?_
    exact ⟨.inl ⟨_, HX.out, rfl⟩, HM.out⟩
  · have HX0 := Lib.hid (show atomS ⟨l.toArray⟩ = (atomR false (toksOf ⟨l.toArray⟩) 0 false).bind fun a => (wantP (toksOf ⟨l.toArray⟩) a.2.1 [0]).bind fun _ => .ok a.1 by
      unfold atomS readL; rw [if_neg (show ¬ 65536 < (⟨l.toArray⟩ : ByteArray).size from hlong)]; unfold wholeP atomOne; rw [atom_eq (toksOf_wf _) (fun a ha => by show (wantP _ a.2.1 [0]).bind _ = _; rw [wantP_bad ha]; rfl), bind_assoc']; rfl)
    have HBG := Lib.hid (begin_any a0 c0 l _ (hR.mod m0 (fun _ _ => id)) hlong)
    have HB := Lib.hid (heap_alloc_new w (.cells #[.string ⟨#[]⟩, .slice none 0 0] 37))
    have M0 := Lib.hid m0
    clear hR m0
    go_enter Tryd.func21, Tryd.ntmps21
    go_wp2_with fail
    refine HBG.out.mono ?_
    rintro e w1 ⟨R, hRS, rfl, hS, hM, hge⟩
    rw [← hRS] at HX0
    have HB1 := Lib.hid (hM.at HB.out id)
    have HM1 := Lib.hid (((M0.out.trans hM).mono (T := Far w) fun _ _ f => f.elim))
    have HRB : Hid (w.heap.size < R.b) := by have : w.heap.size + 1 ≤ R.b := by simpa using hge
                                             exact this
    have HW1 := Lib.hid (show w.heap.size < w1.heap.size from (Array.getElem?_eq_some_iff.1 HB1.out).1)
    have HLR := Lib.hid (show R.b < w1.heap.size from hS.lt)
    have HP := Lib.hid (refAtom_any R false 0 false w1 hS)
    clear hRS hS hM hge HB M0 HBG
    go_wp2_with fail
    refine HP.out.mono ?_
    rintro e w2 (⟨x, hx, ⟨js, ja, jn, jc, rfl⟩, hE, hM⟩ | ⟨⟨⟨p, ts⟩, k2, ag2⟩, hx, ⟨v, rfl, hres, hS2⟩, hM⟩)
    · have HX := Lib.hid (show atomS ⟨l.toArray⟩ = .error x by rw [HX0.out, hx]; rfl)
      have m3 : Mod (fun _ => False) w2 (w2.alloc (.cells #[.string js, .slice ja jn jc] 37)) := (Mod.refl _ w2).alloc _
      have HE := Lib.hid (hE.mod0 m3)
      have HBZ := Lib.hid (m3.at (hM.at HB1.out (fun e => by unfold REnv.Ch at e; have := HRB.out; omega)) id)
      have HMZ := Lib.hid (HM1.out.trans ((far0 (n := 0) (Nat.le_of_lt HRB.out) hM).trans (m3.mono fun _ _ f => f.elim)))
      clear hx hE hM m3 HB1 HM1 HP
      go_wp2_with fail
      obtain ⟨vz, hvz⟩ : ∃ vz, vz = w2.alloc (.cells #[.string js, .slice ja jn jc] 37) := ⟨_, rfl⟩
      rw [← hvz] at HE HBZ HMZ ⊢
      clear hvz
      obtain ⟨ie, ige, hbk⟩ := HE.out
      have q3 := hbk.c3
      have q4 := hbk.c4
      have c0 := cell_at (j := 0) HBZ.out rfl
      have f0 : (vz).frozen? ⟨w.heap.size, 0, none⟩ = false := frozen_at HBZ.out
      have c1 := cell_at (j := 1) HBZ.out rfl
      have f1 : (vz).frozen? ⟨w.heap.size, 1, none⟩ = false := frozen_at HBZ.out
      have hn1 : ¬ R.b = w.heap.size := by have := HRB.out; omega
      have hn2 : ¬ w.heap.size = R.b := fun e => hn1 e.symm
      clear hbk
      refine wp_region_ord (fun w' => w'.cell? ⟨R.b, 4, none⟩ = some (.int .i64 x.2) ∧ w'.cell? ⟨R.b, 3, none⟩ = some (.int .i64 x.1)) [(0, 0), (0, 1), (0, 2), (0, 3), (1, 4), (0, 5), (0, 6), (0, 7), (1, 8), (2, 9), (0, 10), (0, 11)] (by kernel_rfl) (by kernel_rfl) ?_
      go_wp2_with (first
        | (refine ord_pure rfl rfl rfl (fun K hK => ?_); go_big_quiet_op; refine hK _ ?_; clear hK K)
                        | (refine ord_skip rfl rfl ?_; simp only [Act.put, List.setIfInBounds_toArray, List.set_cons_zero, List.set_cons_succ])
                        | (refine ord_held rfl rfl rfl (⟨by simpa using q4, by simpa using q3⟩) (fun K hK => ?_); apply Exists.intro; refine ⟨fun w' hs => ?_, hK _ ?_⟩; (revert hs; dsimp only; (try simp only [and_imp]); intros; go_simp; rfl); clear hK K)
                        | (refine ord_keep rfl rfl (⟨by simpa using q4, by simpa using q3⟩) (fun K hK => ?_))
                        | (refine ord_drop rfl rfl (fun K hK => ?_))
                        | (refine ord_nil ?_))
      obtain ⟨w9, hw9⟩ : ∃ w9, w9 = ((vz).setCell ⟨w.heap.size, 0, none⟩ (.string ⟨#[]⟩)).setCell ⟨w.heap.size, 1, none⟩ (.slice none 0 0) := ⟨_, rfl⟩
      have b9 : w9.heap[w.heap.size]? = some (.cells #[.string ⟨#[]⟩, .slice none 0 0] 37 (0, 0)) := by rw [hw9]; exact heap_setCell_at (j := 1) (.slice none 0 0) (heap_setCell_at (j := 0) (.string ⟨#[]⟩) (HBZ.out))
      have m9 : Mod (fun b => b = w.heap.size) vz w9 := by rw [hw9]; exact ((Mod.refl (fun b => b = w.heap.size) vz).setCell (p := ⟨w.heap.size, 0, none⟩) (fun _ => rfl) _).setCell (p := ⟨w.heap.size, 1, none⟩) (fun _ => rfl) _
      rw [← hw9]
      clear hw9 c0 f0 c1 f1
      have q3' := m9.cell q3 hn1
      have q4' := m9.cell q4 hn1
      refine hK _ _ ⟨q4', q3'⟩ ?_
      clear hK K q3 q4
      go_wp2_with (first
        | (refine ord_pure rfl rfl rfl (fun K hK => ?_); go_big_quiet_op; refine hK _ ?_; clear hK K)
                        | (refine ord_skip rfl rfl ?_; simp only [Act.put, List.setIfInBounds_toArray, List.set_cons_zero, List.set_cons_succ])
                        | (refine ord_held rfl rfl rfl (⟨by simpa using q4', by simpa using q3'⟩) (fun K hK => ?_); apply Exists.intro; refine ⟨fun w' hs => ?_, hK _ ?_⟩; (revert hs; dsimp only; (try simp only [and_imp]); intros; go_simp; rfl); clear hK K)
                        | (refine ord_keep rfl rfl (⟨by simpa using q4', by simpa using q3'⟩) (fun K hK => ?_))
                        | (refine ord_drop rfl rfl (fun K hK => ?_))
                        | (refine ord_nil ?_))
      go_wp2_with fail
      have e0 := cell_at (j := 0) b9 rfl
      have e1 := cell_at (j := 1) b9 rfl
      refine bodyPost_ret (v := .tuple #[.agg #[.string ⟨#[]⟩, .slice none 0 0], .int .i64 x.2, .int .i64 x.1]) (by simp [results, Tryd.results21, go_sem, e0, e1]) rfl ?_
      exact ⟨.inl ⟨x, HX.out, rfl⟩, new_mod (HMZ.out.trans (m9.mono fun _ _ e => Nat.le_of_eq e.symm)).drew⟩
    · have HX1 := Lib.hid (show atomS ⟨l.toArray⟩ = (wantP R.S k2 [0]).bind fun _ => .ok ⟨p, ts⟩ by rw [HX0.out, hx]; rfl)
      have hres' := hres
      obtain ⟨a, c, hv, -, -⟩ := hres'
      subst hv
      have m3 : Mod (fun _ => False) w2 (w2.alloc (.cells #[.string p, .slice a ts.length c] 37)) := (Mod.refl _ w2).alloc _
      have HS3 := Lib.hid (hS2.mod0 m3)
      have HB3 := Lib.hid (m3.at (hM.at HB1.out (fun e => by unfold REnv.Ch at e; have := HRB.out; omega)) id)
      have HG3 := Lib.hid (heap_alloc_new w2 (.cells #[.string p, .slice a ts.length c] 37))
      have HM3 := Lib.hid (HM1.out.trans ((far0 (n := 0) (Nat.le_of_lt HRB.out) hM).trans (m3.mono fun _ _ f => f.elim)))
      have HRES := Lib.hid hres
      have HM23 := Lib.hid m3
      have HEN := Lib.hid (ends_any R k2 ag2 _ HS3.out)
      have HZ2 := Lib.hid (And.intro (show w.heap.size < w2.heap.size from Nat.lt_of_lt_of_le HW1.out hM.size) (show R.b < w2.heap.size from hS2.lt))
      clear hx hM hS2 hres m3 HB1 HM1 HP
      go_wp2_with fail
      refine HEN.out.mono ?_
      rintro e vz (⟨x, hx, rfl, hE, hM⟩ | ⟨u, hx, ⟨rfl, hS⟩, hM⟩)
      · have HX := Lib.hid (show atomS ⟨l.toArray⟩ = .error x by rw [HX1.out, hx]; rfl)
        have HE := Lib.hid hE
        have HBZ := Lib.hid (hM.at HB3.out (fun e => by unfold REnv.Ch at e; have := HRB.out; omega))
        have HMZ := Lib.hid (HM3.out.trans (far0 (n := 0) (Nat.le_of_lt HRB.out) hM))
        clear hx hE hM HB3 HG3 HM3 HEN HRES
        go_wp2_with fail
        obtain ⟨ie, ige, hbk⟩ := HE.out
        have q3 := hbk.c3
        have q4 := hbk.c4
        have c0 := cell_at (j := 0) HBZ.out rfl
        have f0 : (vz).frozen? ⟨w.heap.size, 0, none⟩ = false := frozen_at HBZ.out
        have c1 := cell_at (j := 1) HBZ.out rfl
        have f1 : (vz).frozen? ⟨w.heap.size, 1, none⟩ = false := frozen_at HBZ.out
        have hn1 : ¬ R.b = w.heap.size := by have := HRB.out; omega
        have hn2 : ¬ w.heap.size = R.b := fun e => hn1 e.symm
        clear hbk
        refine wp_region_ord (fun w' => w'.cell? ⟨R.b, 4, none⟩ = some (.int .i64 x.2) ∧ w'.cell? ⟨R.b, 3, none⟩ = some (.int .i64 x.1)) [(0, 0), (0, 1), (0, 2), (0, 3), (1, 4), (0, 5), (0, 6), (0, 7), (1, 8), (2, 9), (0, 10), (0, 11)] (by kernel_rfl) (by kernel_rfl) ?_
        go_wp2_with (first
          | (refine ord_pure rfl rfl rfl (fun K hK => ?_); go_big_quiet_op; refine hK _ ?_; clear hK K)
                        | (refine ord_skip rfl rfl ?_; simp only [Act.put, List.setIfInBounds_toArray, List.set_cons_zero, List.set_cons_succ])
                        | (refine ord_held rfl rfl rfl (⟨by simpa using q4, by simpa using q3⟩) (fun K hK => ?_); apply Exists.intro; refine ⟨fun w' hs => ?_, hK _ ?_⟩; (revert hs; dsimp only; (try simp only [and_imp]); intros; go_simp; rfl); clear hK K)
                        | (refine ord_keep rfl rfl (⟨by simpa using q4, by simpa using q3⟩) (fun K hK => ?_))
                        | (refine ord_drop rfl rfl (fun K hK => ?_))
                        | (refine ord_nil ?_))
        obtain ⟨w9, hw9⟩ : ∃ w9, w9 = ((vz).setCell ⟨w.heap.size, 0, none⟩ (.string ⟨#[]⟩)).setCell ⟨w.heap.size, 1, none⟩ (.slice none 0 0) := ⟨_, rfl⟩
        have b9 : w9.heap[w.heap.size]? = some (.cells #[.string ⟨#[]⟩, .slice none 0 0] 37 (0, 0)) := by rw [hw9]; exact heap_setCell_at (j := 1) (.slice none 0 0) (heap_setCell_at (j := 0) (.string ⟨#[]⟩) (HBZ.out))
        have m9 : Mod (fun b => b = w.heap.size) vz w9 := by rw [hw9]; exact ((Mod.refl (fun b => b = w.heap.size) vz).setCell (p := ⟨w.heap.size, 0, none⟩) (fun _ => rfl) _).setCell (p := ⟨w.heap.size, 1, none⟩) (fun _ => rfl) _
        rw [← hw9]
        clear hw9 c0 f0 c1 f1
        have q3' := m9.cell q3 hn1
        have q4' := m9.cell q4 hn1
        refine hK _ _ ⟨q4', q3'⟩ ?_
        clear hK K q3 q4
        go_wp2_with (first
          | (refine ord_pure rfl rfl rfl (fun K hK => ?_); go_big_quiet_op; refine hK _ ?_; clear hK K)
                        | (refine ord_skip rfl rfl ?_; simp only [Act.put, List.setIfInBounds_toArray, List.set_cons_zero, List.set_cons_succ])
                        | (refine ord_held rfl rfl rfl (⟨by simpa using q4', by simpa using q3'⟩) (fun K hK => ?_); apply Exists.intro; refine ⟨fun w' hs => ?_, hK _ ?_⟩; (revert hs; dsimp only; (try simp only [and_imp]); intros; go_simp; rfl); clear hK K)
                        | (refine ord_keep rfl rfl (⟨by simpa using q4', by simpa using q3'⟩) (fun K hK => ?_))
                        | (refine ord_drop rfl rfl (fun K hK => ?_))
                        | (refine ord_nil ?_))
        go_wp2_with fail
        have e0 := cell_at (j := 0) b9 rfl
        have e1 := cell_at (j := 1) b9 rfl
        refine bodyPost_ret (v := .tuple #[.agg #[.string ⟨#[]⟩, .slice none 0 0], .int .i64 x.2, .int .i64 x.1]) (by simp [results, Tryd.results21, go_sem, e0, e1]) rfl ?_
        exact ⟨.inl ⟨x, HX.out, rfl⟩, new_mod (HMZ.out.trans (m9.mono fun _ _ e => Nat.le_of_eq e.symm)).drew⟩
      · have HX := Lib.hid (show atomS ⟨l.toArray⟩ = .ok ⟨p, ts⟩ by rw [HX1.out, hx]; rfl)
        have HBZ := Lib.hid (hM.at HB3.out (fun e => by unfold REnv.Ch at e; have := HRB.out; omega))
        have hg5 := hM.at HG3.out (fun e => by unfold REnv.Ch at e; have := HZ2.out; omega)
        have HMZ := Lib.hid (HM3.out.trans (far0 (n := 0) (Nat.le_of_lt HRB.out) hM))
        have HMR := Lib.hid hM
        have c0 := cell_at (j := 0) HBZ.out rfl
        have f0 : (vz).frozen? ⟨w.heap.size, 0, none⟩ = false := frozen_at HBZ.out
        have c1 := cell_at (j := 1) HBZ.out rfl
        have f1 : (vz).frozen? ⟨w.heap.size, 1, none⟩ = false := frozen_at HBZ.out
        have d0 := cell_at (j := 0) hg5 rfl
        have d1 := cell_at (j := 1) hg5 rfl
        clear hx hS hM HB3 HG3 HM3 HEN hg5
        go_wp2_with fail
        obtain ⟨w9, hw9⟩ : ∃ w9, w9 = ((vz).setCell ⟨w.heap.size, 0, none⟩ (.string p)).setCell ⟨w.heap.size, 1, none⟩ (.slice a ts.length c) := ⟨_, rfl⟩
        have b9 : w9.heap[w.heap.size]? = some (.cells #[.string p, .slice a ts.length c] 37 (0, 0)) := by rw [hw9]; exact heap_setCell_at (j := 1) (.slice a ts.length c) (heap_setCell_at (j := 0) (.string p) (HBZ.out))
        have m9 : Mod (fun b => b = w.heap.size) vz w9 := by rw [hw9]; exact ((Mod.refl (fun b => b = w.heap.size) vz).setCell (p := ⟨w.heap.size, 0, none⟩) (fun _ => rfl) _).setCell (p := ⟨w.heap.size, 1, none⟩) (fun _ => rfl) _
        rw [← hw9]
        clear hw9 c0 f0 c1 f1 d0 d1
        have e0 := cell_at (j := 0) b9 rfl
        have e1 := cell_at (j := 1) b9 rfl
        refine bodyPost_ret (v := .tuple #[.agg #[.string p, .slice a ts.length c], .int .i64 0, .int .i64 0]) (by simp [results, Tryd.results21, go_sem, e0, e1]) rfl ?_
        refine ⟨.inr ⟨_, _, HX.out, rfl, ?_⟩, new_mod (HMZ.out.trans (m9.mono fun _ _ e => Nat.le_of_eq e.symm))⟩
        have hlo := HW1.out
        exact ⟨_, rfl, ((((HRES.out.mod HM23.out (fun _ _ => id)).mod HMR.out (fun b hb e => by unfold REnv.Ch at e; have := HLR.out; omega)).mod m9 (fun b hb e => by omega)).mono (by omega))⟩
theorem refParseRule_any (a0 : Option Addr) (c0 : Nat) (l : List UInt8) (w : World) (hR : Rd w a0 (bts l)) (hl : l.length < 2 ^ 30) :
    Calls Tryd.prog 18 #[.slice a0 l.length c0] w (RdPost w (.agg #[.string ⟨#[]⟩, .slice none 0 0, .slice none 0 0]) (ruleS ⟨l.toArray⟩) fun r v w' => ∃ s b, v = .agg #[.string r.head.pred, s, b] ∧ TsG w' w.heap.size s r.head.terms ∧ LsG w' w.heap.size b r.body) := by
  have m0 : Mod (fun _ => False) w (w.alloc (.cells #[.string ⟨#[]⟩, .slice none 0 0, .slice none 0 0] 40)) := (Mod.refl _ w).alloc _
  by_cases hlong : 65536 < l.length
  · have HX := Lib.hid (show ruleS ⟨l.toArray⟩ = .error (3, 0) by unfold ruleS readL; rw [if_pos (show 65536 < (⟨l.toArray⟩ : ByteArray).size from hlong)])
    have HM := Lib.hid m0
    clear hR m0
    go_enter Tryd.func18, Tryd.ntmps18
    go_wp2
    refine bodyPost_ret (v := .tuple #[.agg #[.string ⟨#[]⟩, .slice none 0 0, .slice none 0 0], .int .i64 0, .int .i64 3]) (by simp [results, Tryd.results18, go_sem]) rfl ?_
    exact ⟨.inl ⟨_, HX.out, rfl⟩, HM.out⟩
  · have HX0 := Lib.hid (show ruleS ⟨l.toArray⟩ = (ruleP (toksOf ⟨l.toArray⟩) 0).bind fun a => (wantP (toksOf ⟨l.toArray⟩) a.2.1 [0]).bind fun _ => .ok a.1 by
      unfold ruleS readL; rw [if_neg (show ¬ 65536 < (⟨l.toArray⟩ : ByteArray).size from hlong)]; unfold wholeP ruleOne; rw [bind_assoc']; rfl)
    have HBG := Lib.hid (begin_any a0 c0 l _ (hR.mod m0 (fun _ _ => id)) hlong)
    have HB := Lib.hid (heap_alloc_new w (.cells #[.string ⟨#[]⟩, .slice none 0 0, .slice none 0 0] 40))
    have M0 := Lib.hid m0
    clear hR m0
    go_enter Tryd.func18, Tryd.ntmps18
    go_wp2_with fail
    refine HBG.out.mono ?_
    rintro e w1 ⟨R, hRS, rfl, hS, hM, hge⟩
    rw [← hRS] at HX0
    have HB1 := Lib.hid (hM.at HB.out id)
    have HM1 := Lib.hid (((M0.out.trans hM).mono (T := Far w) fun _ _ f => f.elim))
    have HRB : Hid (w.heap.size < R.b) := by have : w.heap.size + 1 ≤ R.b := by simpa using hge
                                             exact this
    have HW1 := Lib.hid (show w.heap.size < w1.heap.size from (Array.getElem?_eq_some_iff.1 HB1.out).1)
    have HLR := Lib.hid (show R.b < w1.heap.size from hS.lt)
    have HP := Lib.hid (refRule_any R 0 false w1 hS)
    clear hRS hS hM hge HB M0 HBG
    go_wp2_with fail
    refine HP.out.mono ?_
    rintro e w2 (⟨x, hx, ⟨js, ja, jn, jc, jb, jm, jd, rfl⟩, hE, hM⟩ | ⟨⟨⟨⟨p, ts⟩, ls⟩, k2, ag2⟩, hx, ⟨v, u, rfl, hres, hres2, hS2⟩, hM⟩)
    · have HX := Lib.hid (show ruleS ⟨l.toArray⟩ = .error x by rw [HX0.out, hx]; rfl)
      have m3 : Mod (fun _ => False) w2 (w2.alloc (.cells #[.string js, .slice ja jn jc, .slice jb jm jd] 40)) := (Mod.refl _ w2).alloc _
      have HE := Lib.hid (hE.mod0 m3)
      have HBZ := Lib.hid (m3.at (hM.at HB1.out (fun e => by unfold REnv.Ch at e; have := HRB.out; omega)) id)
      have HMZ := Lib.hid (HM1.out.trans ((far0 (n := 0) (Nat.le_of_lt HRB.out) hM).trans (m3.mono fun _ _ f => f.elim)))
      clear hx hE hM m3 HB1 HM1 HP
      go_wp2_with fail
      obtain ⟨vz, hvz⟩ : ∃ vz, vz = w2.alloc (.cells #[.string js, .slice ja jn jc, .slice jb jm jd] 40) := ⟨_, rfl⟩
      rw [← hvz] at HE HBZ HMZ ⊢
      clear hvz
      obtain ⟨ie, ige, hbk⟩ := HE.out
      have q3 := hbk.c3
      have q4 := hbk.c4
      have c0 := cell_at (j := 0) HBZ.out rfl
      have f0 : (vz).frozen? ⟨w.heap.size, 0, none⟩ = false := frozen_at HBZ.out
      have c1 := cell_at (j := 1) HBZ.out rfl
      have f1 : (vz).frozen? ⟨w.heap.size, 1, none⟩ = false := frozen_at HBZ.out
      have c2 := cell_at (j := 2) HBZ.out rfl
      have f2 : (vz).frozen? ⟨w.heap.size, 2, none⟩ = false := frozen_at HBZ.out
      have hn1 : ¬ R.b = w.heap.size := by have := HRB.out; omega
      have hn2 : ¬ w.heap.size = R.b := fun e => hn1 e.symm
      clear hbk
      refine wp_region_ord (fun w' => w'.cell? ⟨R.b, 4, none⟩ = some (.int .i64 x.2) ∧ w'.cell? ⟨R.b, 3, none⟩ = some (.int .i64 x.1)) [(0, 0), (0, 1), (0, 2), (0, 3), (1, 4), (0, 5), (0, 6), (0, 7), (1, 8), (2, 9), (0, 10), (0, 11)] (by kernel_rfl) (by kernel_rfl) ?_
      go_wp2_with (first
        | (refine ord_pure rfl rfl rfl (fun K hK => ?_); go_big_quiet_op; refine hK _ ?_; clear hK K)
                        | (refine ord_skip rfl rfl ?_; simp only [Act.put, List.setIfInBounds_toArray, List.set_cons_zero, List.set_cons_succ])
                        | (refine ord_held rfl rfl rfl (⟨by simpa using q4, by simpa using q3⟩) (fun K hK => ?_); apply Exists.intro; refine ⟨fun w' hs => ?_, hK _ ?_⟩; (revert hs; dsimp only; (try simp only [and_imp]); intros; go_simp; rfl); clear hK K)
                        | (refine ord_keep rfl rfl (⟨by simpa using q4, by simpa using q3⟩) (fun K hK => ?_))
                        | (refine ord_drop rfl rfl (fun K hK => ?_))
                        | (refine ord_nil ?_))
      obtain ⟨w9, hw9⟩ : ∃ w9, w9 = (((vz).setCell ⟨w.heap.size, 0, none⟩ (.string ⟨#[]⟩)).setCell ⟨w.heap.size, 1, none⟩ (.slice none 0 0)).setCell ⟨w.heap.size, 2, none⟩ (.slice none 0 0) := ⟨_, rfl⟩
      have b9 : w9.heap[w.heap.size]? = some (.cells #[.string ⟨#[]⟩, .slice none 0 0, .slice none 0 0] 40 (0, 0)) := by rw [hw9]; exact heap_setCell_at (j := 2) (.slice none 0 0) (heap_setCell_at (j := 1) (.slice none 0 0) (heap_setCell_at (j := 0) (.string ⟨#[]⟩) (HBZ.out)))
      have m9 : Mod (fun b => b = w.heap.size) vz w9 := by rw [hw9]; exact (((Mod.refl (fun b => b = w.heap.size) vz).setCell (p := ⟨w.heap.size, 0, none⟩) (fun _ => rfl) _).setCell (p := ⟨w.heap.size, 1, none⟩) (fun _ => rfl) _).setCell (p := ⟨w.heap.size, 2, none⟩) (fun _ => rfl) _
      rw [← hw9]
      clear hw9 c0 f0 c1 f1 c2 f2
      have q3' := m9.cell q3 hn1
      have q4' := m9.cell q4 hn1
      refine hK _ _ ⟨q4', q3'⟩ ?_
      clear hK K q3 q4
      go_wp2_with (first
        | (refine ord_pure rfl rfl rfl (fun K hK => ?_); go_big_quiet_op; refine hK _ ?_; clear hK K)
                        | (refine ord_skip rfl rfl ?_; simp only [Act.put, List.setIfInBounds_toArray, List.set_cons_zero, List.set_cons_succ])
                        | (refine ord_held rfl rfl rfl (⟨by simpa using q4', by simpa using q3'⟩) (fun K hK => ?_); apply Exists.intro; refine ⟨fun w' hs => ?_, hK _ ?_⟩; (revert hs; dsimp only; (try simp only [and_imp]); intros; go_simp; rfl); clear hK K)
                        | (refine ord_keep rfl rfl (⟨by simpa using q4', by simpa using q3'⟩) (fun K hK => ?_))
                        | (refine ord_drop rfl rfl (fun K hK => ?_))
                        | (refine ord_nil ?_))
      go_wp2_with fail
      have e0 := cell_at (j := 0) b9 rfl
      have e1 := cell_at (j := 1) b9 rfl
      have e2 := cell_at (j := 2) b9 rfl
      refine bodyPost_ret (v := .tuple #[.agg #[.string ⟨#[]⟩, .slice none 0 0, .slice none 0 0], .int .i64 x.2, .int .i64 x.1]) (by simp [results, Tryd.results18, go_sem, e0, e1, e2]) rfl ?_
      exact ⟨.inl ⟨x, HX.out, rfl⟩, new_mod (HMZ.out.trans (m9.mono fun _ _ e => Nat.le_of_eq e.symm)).drew⟩
    · have HX1 := Lib.hid (show ruleS ⟨l.toArray⟩ = (wantP R.S k2 [0]).bind fun _ => .ok ⟨⟨p, ts⟩, ls⟩ by rw [HX0.out, hx]; rfl)
      have hres' := hres
      obtain ⟨a, c, hv, -, -⟩ := hres'
      subst hv
      have hres2' := hres2
      obtain ⟨b, d, xs, hv, -, -, -, -⟩ := hres2'
      subst hv
      have HRES2 := Lib.hid hres2
      clear hres2
      unfold rmV
      have m3 : Mod (fun _ => False) w2 (w2.alloc (.cells #[.string p, .slice a ts.length c, .slice b ls.length d] 40)) := (Mod.refl _ w2).alloc _
      have HS3 := Lib.hid (hS2.mod0 m3)
      have HB3 := Lib.hid (m3.at (hM.at HB1.out (fun e => by unfold REnv.Ch at e; have := HRB.out; omega)) id)
      have HG3 := Lib.hid (heap_alloc_new w2 (.cells #[.string p, .slice a ts.length c, .slice b ls.length d] 40))
      have HM3 := Lib.hid (HM1.out.trans ((far0 (n := 0) (Nat.le_of_lt HRB.out) hM).trans (m3.mono fun _ _ f => f.elim)))
      have HRES := Lib.hid hres
      have HM23 := Lib.hid m3
      have HEN := Lib.hid (ends_any R k2 ag2 _ HS3.out)
      have HZ2 := Lib.hid (And.intro (show w.heap.size < w2.heap.size from Nat.lt_of_lt_of_le HW1.out hM.size) (show R.b < w2.heap.size from hS2.lt))
      clear hx hM hS2 hres m3 HB1 HM1 HP
      go_wp2_with fail
      refine HEN.out.mono ?_
      rintro e vz (⟨x, hx, rfl, hE, hM⟩ | ⟨u, hx, ⟨rfl, hS⟩, hM⟩)
      · have HX := Lib.hid (show ruleS ⟨l.toArray⟩ = .error x by rw [HX1.out, hx]; rfl)
        have HE := Lib.hid hE
        have HBZ := Lib.hid (hM.at HB3.out (fun e => by unfold REnv.Ch at e; have := HRB.out; omega))
        have HMZ := Lib.hid (HM3.out.trans (far0 (n := 0) (Nat.le_of_lt HRB.out) hM))
        clear hx hE hM HB3 HG3 HM3 HEN HRES
        go_wp2_with fail
        obtain ⟨ie, ige, hbk⟩ := HE.out
        have q3 := hbk.c3
        have q4 := hbk.c4
        have c0 := cell_at (j := 0) HBZ.out rfl
        have f0 : (vz).frozen? ⟨w.heap.size, 0, none⟩ = false := frozen_at HBZ.out
        have c1 := cell_at (j := 1) HBZ.out rfl
        have f1 : (vz).frozen? ⟨w.heap.size, 1, none⟩ = false := frozen_at HBZ.out
        have c2 := cell_at (j := 2) HBZ.out rfl
        have f2 : (vz).frozen? ⟨w.heap.size, 2, none⟩ = false := frozen_at HBZ.out
        have hn1 : ¬ R.b = w.heap.size := by have := HRB.out; omega
        have hn2 : ¬ w.heap.size = R.b := fun e => hn1 e.symm
        clear hbk
        refine wp_region_ord (fun w' => w'.cell? ⟨R.b, 4, none⟩ = some (.int .i64 x.2) ∧ w'.cell? ⟨R.b, 3, none⟩ = some (.int .i64 x.1)) [(0, 0), (0, 1), (0, 2), (0, 3), (1, 4), (0, 5), (0, 6), (0, 7), (1, 8), (2, 9), (0, 10), (0, 11)] (by kernel_rfl) (by kernel_rfl) ?_
        go_wp2_with (first
          | (refine ord_pure rfl rfl rfl (fun K hK => ?_); go_big_quiet_op; refine hK _ ?_; clear hK K)
                        | (refine ord_skip rfl rfl ?_; simp only [Act.put, List.setIfInBounds_toArray, List.set_cons_zero, List.set_cons_succ])
                        | (refine ord_held rfl rfl rfl (⟨by simpa using q4, by simpa using q3⟩) (fun K hK => ?_); apply Exists.intro; refine ⟨fun w' hs => ?_, hK _ ?_⟩; (revert hs; dsimp only; (try simp only [and_imp]); intros; go_simp; rfl); clear hK K)
                        | (refine ord_keep rfl rfl (⟨by simpa using q4, by simpa using q3⟩) (fun K hK => ?_))
                        | (refine ord_drop rfl rfl (fun K hK => ?_))
                        | (refine ord_nil ?_))
        obtain ⟨w9, hw9⟩ : ∃ w9, w9 = (((vz).setCell ⟨w.heap.size, 0, none⟩ (.string ⟨#[]⟩)).setCell ⟨w.heap.size, 1, none⟩ (.slice none 0 0)).setCell ⟨w.heap.size, 2, none⟩ (.slice none 0 0) := ⟨_, rfl⟩
        have b9 : w9.heap[w.heap.size]? = some (.cells #[.string ⟨#[]⟩, .slice none 0 0, .slice none 0 0] 40 (0, 0)) := by rw [hw9]; exact heap_setCell_at (j := 2) (.slice none 0 0) (heap_setCell_at (j := 1) (.slice none 0 0) (heap_setCell_at (j := 0) (.string ⟨#[]⟩) (HBZ.out)))
        have m9 : Mod (fun b => b = w.heap.size) vz w9 := by rw [hw9]; exact (((Mod.refl (fun b => b = w.heap.size) vz).setCell (p := ⟨w.heap.size, 0, none⟩) (fun _ => rfl) _).setCell (p := ⟨w.heap.size, 1, none⟩) (fun _ => rfl) _).setCell (p := ⟨w.heap.size, 2, none⟩) (fun _ => rfl) _
        rw [← hw9]
        clear hw9 c0 f0 c1 f1 c2 f2
        have q3' := m9.cell q3 hn1
        have q4' := m9.cell q4 hn1
        refine hK _ _ ⟨q4', q3'⟩ ?_
        clear hK K q3 q4
        go_wp2_with (first
          | (refine ord_pure rfl rfl rfl (fun K hK => ?_); go_big_quiet_op; refine hK _ ?_; clear hK K)
                        | (refine ord_skip rfl rfl ?_; simp only [Act.put, List.setIfInBounds_toArray, List.set_cons_zero, List.set_cons_succ])
                        | (refine ord_held rfl rfl rfl (⟨by simpa using q4', by simpa using q3'⟩) (fun K hK => ?_); apply Exists.intro; refine ⟨fun w' hs => ?_, hK _ ?_⟩; (revert hs; dsimp only; (try simp only [and_imp]); intros; go_simp; rfl); clear hK K)
                        | (refine ord_keep rfl rfl (⟨by simpa using q4', by simpa using q3'⟩) (fun K hK => ?_))
                        | (refine ord_drop rfl rfl (fun K hK => ?_))
                        | (refine ord_nil ?_))
        go_wp2_with fail
        have e0 := cell_at (j := 0) b9 rfl
        have e1 := cell_at (j := 1) b9 rfl
        have e2 := cell_at (j := 2) b9 rfl
        refine bodyPost_ret (v := .tuple #[.agg #[.string ⟨#[]⟩, .slice none 0 0, .slice none 0 0], .int .i64 x.2, .int .i64 x.1]) (by simp [results, Tryd.results18, go_sem, e0, e1, e2]) rfl ?_
        exact ⟨.inl ⟨x, HX.out, rfl⟩, new_mod (HMZ.out.trans (m9.mono fun _ _ e => Nat.le_of_eq e.symm)).drew⟩
      · have HX := Lib.hid (show ruleS ⟨l.toArray⟩ = .ok ⟨⟨p, ts⟩, ls⟩ by rw [HX1.out, hx]; rfl)
        have HBZ := Lib.hid (hM.at HB3.out (fun e => by unfold REnv.Ch at e; have := HRB.out; omega))
        have hg5 := hM.at HG3.out (fun e => by unfold REnv.Ch at e; have := HZ2.out; omega)
        have HMZ := Lib.hid (HM3.out.trans (far0 (n := 0) (Nat.le_of_lt HRB.out) hM))
        have HMR := Lib.hid hM
        have c0 := cell_at (j := 0) HBZ.out rfl
        have f0 : (vz).frozen? ⟨w.heap.size, 0, none⟩ = false := frozen_at HBZ.out
        have c1 := cell_at (j := 1) HBZ.out rfl
        have f1 : (vz).frozen? ⟨w.heap.size, 1, none⟩ = false := frozen_at HBZ.out
        have c2 := cell_at (j := 2) HBZ.out rfl
        have f2 : (vz).frozen? ⟨w.heap.size, 2, none⟩ = false := frozen_at HBZ.out
        have d0 := cell_at (j := 0) hg5 rfl
        have d1 := cell_at (j := 1) hg5 rfl
        have d2 := cell_at (j := 2) hg5 rfl
        clear hx hS hM HB3 HG3 HM3 HEN hg5
        go_wp2_with fail
        obtain ⟨w9, hw9⟩ : ∃ w9, w9 = (((vz).setCell ⟨w.heap.size, 0, none⟩ (.string p)).setCell ⟨w.heap.size, 1, none⟩ (.slice a ts.length c)).setCell ⟨w.heap.size, 2, none⟩ (.slice b ls.length d) := ⟨_, rfl⟩
        have b9 : w9.heap[w.heap.size]? = some (.cells #[.string p, .slice a ts.length c, .slice b ls.length d] 40 (0, 0)) := by rw [hw9]; exact heap_setCell_at (j := 2) (.slice b ls.length d) (heap_setCell_at (j := 1) (.slice a ts.length c) (heap_setCell_at (j := 0) (.string p) (HBZ.out)))
        have m9 : Mod (fun b => b = w.heap.size) vz w9 := by rw [hw9]; exact (((Mod.refl (fun b => b = w.heap.size) vz).setCell (p := ⟨w.heap.size, 0, none⟩) (fun _ => rfl) _).setCell (p := ⟨w.heap.size, 1, none⟩) (fun _ => rfl) _).setCell (p := ⟨w.heap.size, 2, none⟩) (fun _ => rfl) _
        rw [← hw9]
        clear hw9 c0 f0 c1 f1 c2 f2 d0 d1 d2
        have e0 := cell_at (j := 0) b9 rfl
        have e1 := cell_at (j := 1) b9 rfl
        have e2 := cell_at (j := 2) b9 rfl
        refine bodyPost_ret (v := .tuple #[.agg #[.string p, .slice a ts.length c, .slice b ls.length d], .int .i64 0, .int .i64 0]) (by simp [results, Tryd.results18, go_sem, e0, e1, e2]) rfl ?_
        refine ⟨.inr ⟨_, _, HX.out, rfl, ?_⟩, new_mod (HMZ.out.trans (m9.mono fun _ _ e => Nat.le_of_eq e.symm))⟩
        have hlo := HW1.out
        exact ⟨_, _, rfl, ((((HRES.out.mod HM23.out (fun _ _ => id)).mod HMR.out (fun b hb e => by unfold REnv.Ch at e; have := HLR.out; omega)).mod m9 (fun b hb e => by omega)).mono (by omega)),
          ((((HRES2.out.mod HM23.out (fun _ _ => id)).mod HMR.out (fun b hb e => by unfold REnv.Ch at e; have := HLR.out; omega)).mod m9 (fun b hb e => by omega)).mono (by omega))⟩
end Go.Proofs.YtgplagdehfhffaaDoor
/-
  The document's reader: Parse.
-/
namespace Go.Proofs.YtgplagdehfhffaaDoor
open Go Go.RowKit Go.Mine
set_option linter.unusedVariables false
set_option maxHeartbeats 1000000
set_option maxRecDepth 100000

theorem rmsC_one {w : World} {lo : Nat} (xs : List (Rm × Value × Value)) : True := trivial
/-- rules of the call's own -/
def RsG (w : World) (lo : Nat) (v : Value) (rs : List Rm) : Prop :=
  ∃ (a : Option Addr) (c : Nat) (xs : List (Rm × Value × Value)), v = .slice a rs.length c ∧ xs.map Prod.fst = rs ∧ Mine.Own w 40 3 a rs.length c (rmsC xs) ∧ (∀ x ∈ xs, TsG w lo x.2.1 x.1.head.terms ∧ LsG w lo x.2.2 x.1.body) ∧ ∀ b, blk a = some b → lo ≤ b
theorem RsG.at_ {w : World} {lo : Nat} {v : Value} {rs : List Rm} (h : RsG w lo v rs) : RsAt w v rs := by
  obtain ⟨a, c, xs, e, hx, ho, ht, hf⟩ := h
  exact ⟨a, c, xs, e, hx, ho.rd, fun x hx => ⟨(ht x hx).1.at_, (ht x hx).2.at_⟩⟩
theorem room1 (R : REnv) (k : Nat) (agg : Bool) (n : Nat) (w : World) (h : RSt w R k agg) (g : Nat) (hg : g = w.heap.size := by first | rfl | simp) :
    Calls Tryd.prog 53 #[.pointer (some ⟨R.b, 0, none⟩), .slice (some ⟨g, 0, none⟩) 1 1, .int .i64 n, .int .i64 1024, .int .i64 81] (w.alloc (.cells #[.int .i64 1] 3)) (QP R w (roomP R.S k [1] n 1024 81) noB fun _ e w' => e = .returned (.bool true) ∧ RSt w' R k agg) := by
  subst hg
  have m : Mod (fun _ => False) w (w.alloc (.cells #[.int .i64 1] 3)) := (Mod.refl _ w).alloc _
  have h1 := room_any R k agg (some ⟨w.heap.size, 0, none⟩) 1 [1] n 1024 81 _ (h.mod0 m) (Rd.news w [.int .i64 1] _) (by simp) (by decide) (by omega)
  exact h1.mono fun e w' h => QP.pre m h
/-- a program under way -/
structure PgI (R : REnv) (w w1 W : World) (g1 : Nat) (xs : List (Rm × Value × Value)) (a : Option Addr) (c : Nat) : Prop where
  base : RSt w1 R 0 false
  rb : w.heap.size < R.b
  hg : w1.heap.size ≤ g1
  md : Mod (Far w) w W
  b0 : W.heap[w.heap.size]? = some (.cells #[.slice none 0 0] 26 (0, 0))
  b1 : W.heap[g1]? = some (.cells #[.slice a xs.length c] 26 (0, 0))
  own : Mine.Own W 40 3 a xs.length c (rmsC xs)
  ts : ∀ x ∈ xs, TsG W w1.heap.size x.2.1 x.1.head.terms ∧ LsG W w1.heap.size x.2.2 x.1.body
  fr : ∀ b, blk a = some b → w1.heap.size ≤ b ∧ b ≠ g1
section
variable {R : REnv} {w w1 W W' : World} {g1 k k' c c' : Nat} {ag ag' : Bool} {xs : List (Rm × Value × Value)} {a a' : Option Addr}
theorem PgI.call (h : PgI R w w1 W g1 xs a c) (m : Mod R.Ch W W') : PgI R w w1 W' g1 xs a c := by
  have h1 := h.base.lt
  have h2 := h.rb
  have hg := h.hg
  have hn : ∀ b, w1.heap.size ≤ b → ¬ R.Ch b := fun b hb e => by unfold REnv.Ch at e; omega
  exact ⟨h.base, h.rb, h.hg, h.md.trans (far0 (n := 0) (Nat.le_of_lt h.rb) m), m.at h.b0 (fun e => by unfold REnv.Ch at e; omega), m.at h.b1 (hn _ h.hg), h.own.mod m (fun b hb => hn b (h.fr b hb).1), fun x hx => ⟨(h.ts x hx).1.mod m hn, (h.ts x hx).2.mod m hn⟩, h.fr⟩
theorem PgI.call0 (h : PgI R w w1 W g1 xs a c) (m : Mod (fun _ => False) W W') : PgI R w w1 W' g1 xs a c := h.call (m.mono fun _ _ f => f.elim)
theorem PgI.lt (h : PgI R w w1 W g1 xs a c) : g1 < W.heap.size := (Array.getElem?_eq_some_iff.1 h.b1).1
theorem PgI.step (h : PgI R w w1 W g1 xs a c) (hs : RSt W R k ag) {W1 : World} (t : Rm × Value × Value) (ht1 : TsG W w1.heap.size t.2.1 t.1.head.terms) (ht2 : LsG W w1.heap.size t.2.2 t.1.body) {us : List Value} (hu : us = rmC t) (ho : Mine.Own W1 40 3 a' (xs.length + 1) c' (rmsC xs ++ us)) (hg : ∃ W2, Mod (fun _ => False) W W2 ∧ Grow W2 a W1 a') :
    PgI R w w1 (W1.setCell ⟨g1, 0, none⟩ (.slice a' (xs.length + 1) c')) g1 (xs ++ [t]) a' c' ∧ RSt (W1.setCell ⟨g1, 0, none⟩ (.slice a' (xs.length + 1) c')) R k ag := by
  obtain ⟨W2, m2, hg⟩ := hg
  have hl := h.lt
  have h1 := h.base.lt
  have h2 := h.rb
  have h3 := h.hg
  have mG : Mod (fun b => blk a = some b) W W1 := (m2.mono fun _ _ f => f.elim).step hg.mod (fun i _ hi => hi)
  have mF : Mod (Far w1) W W1 := mG.mono fun i _ hi => (h.fr i hi).1
  have hfr : ∀ b, blk a' = some b → w1.heap.size ≤ b ∧ b ≠ g1 := by
    intro b hb
    rcases hg.pos with e | ⟨b', e, hb'⟩
    · rw [e] at hb; exact h.fr b hb
    · rw [e] at hb; cases hb; have := m2.size; omega
  have m3 : Mod (Far w1) W (W1.setCell ⟨g1, 0, none⟩ (.slice a' (xs.length + 1) c')) := mF.setCell (p := ⟨g1, 0, none⟩) (fun _ => h3) _
  have m4 : Mod (fun b => b = g1) W1 (W1.setCell ⟨g1, 0, none⟩ (.slice a' (xs.length + 1) c')) := (Mod.refl (fun b => b = g1) W1).setCell (p := ⟨g1, 0, none⟩) (fun _ => rfl) _
  have b1 := hg.mod.at (m2.at h.b1 id) (fun e => (h.fr _ e).2 rfl)
  have hkeep : ∀ b, blk a = some b → ∀ cur, W.heap[b]? ≠ some (.cells cur 60 (0, 0)) ∧ W.heap[b]? ≠ some (.cells cur 62 (0, 0)) := by
    intro b hb cur
    rcases h.own.2 with ⟨rfl, _⟩ | ⟨b', cur', rfl, hgg, _⟩
    · simp at hb
    · simp at hb; subst hb; rw [hgg]; exact ⟨(fun e => by cases e), (fun e => by cases e)⟩
  have hkeep2 : ∀ b, b = g1 → ∀ cur, W1.heap[b]? ≠ some (.cells cur 60 (0, 0)) ∧ W1.heap[b]? ≠ some (.cells cur 62 (0, 0)) := by
    intro b hb cur
    subst hb; rw [b1]; exact ⟨(fun e => by cases e), (fun e => by cases e)⟩
  have hTT : ∀ v us, TsG W w1.heap.size v us → TsG (W1.setCell ⟨g1, 0, none⟩ (.slice a' (xs.length + 1) c')) w1.heap.size v us := fun v us hv =>
    (hv.modT mG (fun b _ hb cur => (hkeep b hb cur).1)).modT m4 (fun b _ hb cur => (hkeep2 b hb cur).1)
  have hLL : ∀ v us, LsG W w1.heap.size v us → LsG (W1.setCell ⟨g1, 0, none⟩ (.slice a' (xs.length + 1) c')) w1.heap.size v us := fun v us hv =>
    (hv.modT mG (fun b _ hb cur => hkeep b hb cur)).modT m4 (fun b _ hb cur => hkeep2 b hb cur)
  have hlen : (xs ++ [t]).length = xs.length + 1 := by simp
  refine ⟨⟨h.base, h.rb, h.hg, h.md.trans (m3.mono fun i _ hi => by unfold Far at *; omega), m3.at h.b0 (fun e => by unfold Far at e; omega), ?_, ?_, fun x hx => ?_, hfr⟩, h.base.far hs m3⟩
  · have := heap_setCell_at (j := 0) (.slice a' (xs.length + 1) c') b1
    rw [hlen]; exact this
  · rw [hlen, rmsC_append]
    subst hu
    have := ho.mod m4 (fun b hb e => (hfr b hb).2 e)
    simpa [rmsC] using this
  · rcases List.mem_append.1 hx with hx | hx
    · exact ⟨hTT _ _ (h.ts x hx).1, hLL _ _ (h.ts x hx).2⟩
    · simp at hx; subst hx; exact ⟨hTT _ _ ht1, hLL _ _ ht2⟩
end
theorem progGo_zero {S : Toks} {n k : Nat} {acc : List Rm} (h : kindI S k = 0) : progGo S (n + 1) k acc = .ok (acc, k) ∧ wantP S k [0] = .ok () := by
  have hb : S.bad k = false := by
    cases hb : S.bad k with
    | false => rfl
    | true => unfold kindI at h; rw [hb, if_pos rfl] at h; omega
  have hk : (S.tok k).kind = 0 := by unfold kindI at h; rw [hb] at h; simpa using h
  refine ⟨?_, wantP_ok hb (by rw [hk]; decide)⟩
  rw [progGo, isP_val hb, bind_ok', if_pos (by rw [hk]; decide)]
theorem progGo_room {S : Toks} {n k : Nat} {acc : List Rm} (h : kindI S k ≠ 0) (hn : acc.length ≤ 1024) : progGo S (n + 1) k acc = (roomP S k [1] acc.length 1024 81).bind fun _ => (ruleP S k).bind fun r => progGo S n r.2.1 (acc ++ [r.1]) := by
  rw [progGo]
  cases hb : S.bad k with
  | true =>
    unfold roomP
    rw [isP_bad hb, wantP_bad hb]; rfl
  | false =>
    have hk : (S.tok k).kind ≠ 0 := by intro e; apply h; unfold kindI; rw [hb]; simp; omega
    rw [isP_val hb, bind_ok', if_neg (by simpa using hk)]
    unfold roomP
    rw [bind_assoc']
    refine bind_congr' fun u _ => ?_
    by_cases hm : acc.length = 1024
    · rw [if_pos hm, if_pos (by omega)]; rfl
    · rw [if_neg hm, if_neg (by omega)]; rfl
theorem refParse_any (a0 : Option Addr) (c0 : Nat) (l : List UInt8) (w : World) (hR : Rd w a0 (bts l)) (hl : l.length < 2 ^ 30) :
    Calls Tryd.prog 13 #[.slice a0 l.length c0] w (RdPost w (.agg #[.slice none 0 0]) (progS ⟨l.toArray⟩) fun rs v w' => ∃ s, v = .agg #[s] ∧ RsG w' w.heap.size s rs) := by
  have m0 : Mod (fun _ => False) w (w.alloc (.cells #[.slice none 0 0] 26)) := (Mod.refl _ w).alloc _
  by_cases hlong : 65536 < l.length
  · have HX := Lib.hid (show progS ⟨l.toArray⟩ = .error (3, 0) by unfold progS readL; rw [if_pos (show 65536 < (⟨l.toArray⟩ : ByteArray).size from hlong)])
    have HM := Lib.hid m0
    clear hR m0
    go_enter Tryd.func13, Tryd.ntmps13
    go_wp2
    refine bodyPost_ret (v := .tuple #[.agg #[.slice none 0 0], .int .i64 0, .int .i64 3]) (by simp [results, Tryd.results13, go_sem]) rfl ?_
    exact ⟨.inl ⟨_, HX.out, rfl⟩, HM.out⟩
  have HX0 := Lib.hid (show progS ⟨l.toArray⟩ = (progGo (toksOf ⟨l.toArray⟩) 1025 0 []).bind fun x => (wantP (toksOf ⟨l.toArray⟩) x.2 [0]).bind fun _ => .ok x.1 by
    unfold progS readL; rw [if_neg (show ¬ 65536 < (⟨l.toArray⟩ : ByteArray).size from hlong)]; rfl)
  have HBG := Lib.hid (begin_any a0 c0 l _ (hR.mod m0 (fun _ _ => id)) hlong)
  have HB := Lib.hid (heap_alloc_new w (.cells #[.slice none 0 0] 26))
  have M0 := Lib.hid m0
  clear hR m0
  go_enter Tryd.func13, Tryd.ntmps13
  go_wp2_with fail
  refine HBG.out.mono ?_
  rintro e w1 ⟨R, hRS, rfl, hS, hM, hge⟩
  rw [← hRS] at HX0
  have HRB : Hid (w.heap.size < R.b) := by have : w.heap.size + 1 ≤ R.b := by simpa using hge
                                           exact this
  have m2 : Mod (fun _ => False) w1 (w1.alloc (.cells #[.slice none 0 0] 26)) := (Mod.refl _ w1).alloc _
  have hA : PgI R w w1 (w1.alloc (.cells #[.slice none 0 0] 26)) w1.heap.size [] none 0 :=
    ⟨hS, HRB.out, Nat.le_refl _, ((M0.out.trans hM).trans m2).mono fun _ _ f => f.elim, m2.at (hM.at HB.out id) id, heap_alloc_new _ _, Mine.Own.nil _ _ _, by simp, by simp⟩
  obtain ⟨g1, hg1⟩ : ∃ g1, g1 = w1.heap.size := ⟨_, rfl⟩
  have HA := Lib.hid hA
  have HS := Lib.hid (hS.mod0 m2)
  have HG := Lib.hid hg1
  have HXe : Hid (∀ x, progGo R.S 1025 0 [] = .error x → progS ⟨l.toArray⟩ = .error x) := fun x h => by rw [HX0.out, h]; rfl
  have HXm : Hid (∀ r, progGo R.S 1025 0 [] = .ok r → wantP R.S r.2 [0] = .ok () → progS ⟨l.toArray⟩ = .ok r.1) := fun r h h2 => by rw [HX0.out, h, bind_ok', h2]; rfl
  rw [← hg1] at HA
  clear hRS hS hM hge m2 hA hg1 HB M0 HBG HX0
  go_wp2_with fail
  rw [← HG.out]
  obtain ⟨v1, hv1⟩ : ∃ v1, v1 = (w1.alloc (.cells #[.slice none 0 0] 26)) := ⟨_, rfl⟩
  rw [← hv1] at HA HS ⊢
  clear hv1 HG
  go_loopg [] 1025 (fun n wr => ∃ (k' : Nat) (ag' : Bool) (xs : List (Rm × Value × Value)) (a : Option Addr) (c : Nat), n + xs.length = 1025 ∧ 0 < n ∧ Hid (PgI R w w1 wr g1 xs a c) ∧ Hid (RSt wr R k' ag') ∧ Hid (progGo R.S 1025 0 [] = progGo R.S n k' (xs.map Prod.fst)))
  case atStart => exact ⟨0, false, [], none, 0, rfl, by omega, HA, HS, Lib.hid rfl⟩
  case round =>
    clear HA HS
    obtain ⟨k', ag', xs, a, c, hn, hpos, HA, HS, HL⟩ := hrel
    obtain ⟨n, rfl⟩ : ∃ n, gk = n + 1 := ⟨gk - 1, by omega⟩
    have hal : xs.length ≤ 1024 := by omega
    have hnl := Lib.hid hn
    clear hn
    have HKD := Lib.hid HS.out.kindC
    by_cases h0 : kindI R.S k' = 0
    · have hz := progGo_zero (n := n) (acc := xs.map Prod.fst) h0
      have HX := Lib.hid (HXm.out _ (HL.out.trans hz.1) hz.2)
      rw [h0] at HKD
      clear h0 hz
      go_wp2_with fail
      refine HKD.out.mono ?_
      rintro e vz ⟨rfl, hM⟩
      have HAz := Lib.hid (HA.out.call0 hM)
      have c0 := cell_at (j := 0) HAz.out.b0 rfl
      have f0 : vz.frozen? ⟨w.heap.size, 0, none⟩ = false := frozen_at HAz.out.b0
      have d0 := cell_at (j := 0) HAz.out.b1 rfl
      clear hM HKD HA HS HL
      go_wp2_with fail
      obtain ⟨w9, hw9⟩ : ∃ w9, w9 = vz.setCell ⟨w.heap.size, 0, none⟩ (.slice a xs.length c) := ⟨_, rfl⟩
      have b9 : w9.heap[w.heap.size]? = some (.cells #[.slice a xs.length c] 26 (0, 0)) := by rw [hw9]; exact heap_setCell_at (j := 0) (.slice a xs.length c) HAz.out.b0
      have m9 : Mod (fun b => b = w.heap.size) vz w9 := by rw [hw9]; exact (Mod.refl (fun b => b = w.heap.size) vz).setCell (p := ⟨w.heap.size, 0, none⟩) (fun _ => rfl) _
      rw [← hw9]
      clear hw9 c0 f0 d0
      have e0 := cell_at (j := 0) b9 rfl
      refine bodyPost_ret (v := .tuple #[.agg #[.slice a xs.length c], .int .i64 0, .int .i64 0]) (by simp [results, Tryd.results13, go_sem, e0]) rfl ?_
      have h1 := HAz.out.base.lt
      have h2 := HAz.out.rb
      have hn : ∀ b, w1.heap.size ≤ b → ¬ b = w.heap.size := fun b hb => by omega
      refine ⟨.inr ⟨_, _, HX.out, rfl, _, rfl, a, c, xs, by rw [List.length_map], rfl, ?_, fun x hx => ⟨((HAz.out.ts x hx).1.mod m9 hn).mono (by omega), ((HAz.out.ts x hx).2.mod m9 hn).mono (by omega)⟩, fun b hb => by have := (HAz.out.fr b hb).1; omega⟩, new_mod (HAz.out.md.trans (m9.mono fun _ _ e => Nat.le_of_eq e.symm))⟩
      rw [List.length_map]
      exact HAz.out.own.mod m9 (fun b hb => hn b (HAz.out.fr b hb).1)
    · have HRM := Lib.hid (progGo_room (n := n) (acc := xs.map Prod.fst) h0 (by rw [List.length_map]; exact hal))
      have hml : (xs.map Prod.fst).length = xs.length := List.length_map ..
      rw [hml] at HRM
      obtain ⟨kd, hkd⟩ : ∃ kd, kd = kindI R.S k' := ⟨_, rfl⟩
      rw [← hkd] at HKD h0
      have hkb : (kd != 0) = true := by simpa using h0
      clear hkd h0 hml
      go_wp2_with fail
      refine HKD.out.mono ?_
      rintro e v3 ⟨rfl, hM⟩
      have HA3 := Lib.hid (HA.out.call0 hM)
      have HRC := Lib.hid (room1 R k' ag' xs.length v3 (HS.out.mod0 hM) v3.heap.size)
      have d0 := cell_at (j := 0) HA3.out.b1 rfl
      have hn3 : ¬ g1 = v3.heap.size := by have := HA3.out.lt; omega
      have hn3' : ¬ v3.heap.size = g1 := fun e => hn3 e.symm
      have d0a := ((Mod.refl (fun _ => False) v3).alloc (.cells #[.int .i64 1] 3)).cell d0 id
      clear hM HKD HA HS
      go_wp2_with fail
      refine HRC.out.mono ?_
      rintro e v5 (⟨x, hx, rfl, hE, hM⟩ | ⟨u, hx, ⟨rfl, hS⟩, hM⟩)
      · have HX := Lib.hid (HXe.out x (by rw [HL.out, HRM.out, hx]; rfl))
        have HE := Lib.hid hE
        have HA5 := Lib.hid (HA3.out.call hM)
        have HBZ := Lib.hid HA5.out.b0
        have HMZ := Lib.hid HA5.out.md
        obtain ⟨vz, hvz⟩ : ∃ vz, vz = v5 := ⟨_, rfl⟩
        rw [← hvz] at HE HBZ HMZ ⊢
        clear hvz hx hE hM HRC d0 d0a hn3 hn3' HA3 HA5 HL HRM
        go_wp2_with fail
        obtain ⟨ie, ige, hbk⟩ := HE.out
        have q3 := hbk.c3
        have q4 := hbk.c4
        have c0 := cell_at (j := 0) HBZ.out rfl
        have f0 : vz.frozen? ⟨w.heap.size, 0, none⟩ = false := frozen_at HBZ.out
        have hn1 : ¬ R.b = w.heap.size := by have := HRB.out; omega
        have hn2 : ¬ w.heap.size = R.b := fun e => hn1 e.symm
        clear hbk
        refine wp_region_ord (fun w' => w'.cell? ⟨R.b, 4, none⟩ = some (.int .i64 x.2) ∧ w'.cell? ⟨R.b, 3, none⟩ = some (.int .i64 x.1)) [(0, 0), (0, 1), (0, 2), (0, 3), (1, 4), (0, 5), (0, 6), (0, 7), (1, 8), (2, 9), (0, 10), (0, 11)] (by kernel_rfl) (by kernel_rfl) ?_
        go_wp2_with (first
          | (refine ord_pure rfl rfl rfl (fun K hK => ?_); go_big_quiet_op; refine hK _ ?_; clear hK K)
                        | (refine ord_skip rfl rfl ?_; simp only [Act.put, List.setIfInBounds_toArray, List.set_cons_zero, List.set_cons_succ])
                        | (refine ord_held rfl rfl rfl (⟨by simpa using q4, by simpa using q3⟩) (fun K hK => ?_); apply Exists.intro; refine ⟨fun w' hs => ?_, hK _ ?_⟩; (revert hs; dsimp only; (try simp only [and_imp]); intros; go_simp; rfl); clear hK K)
                        | (refine ord_keep rfl rfl (⟨by simpa using q4, by simpa using q3⟩) (fun K hK => ?_))
                        | (refine ord_drop rfl rfl (fun K hK => ?_))
                        | (refine ord_nil ?_))
        obtain ⟨w9, hw9⟩ : ∃ w9, w9 = vz.setCell ⟨w.heap.size, 0, none⟩ (.slice none 0 0) := ⟨_, rfl⟩
        have b9 : w9.heap[w.heap.size]? = some (.cells #[.slice none 0 0] 26 (0, 0)) := by rw [hw9]; exact heap_setCell_at (j := 0) (.slice none 0 0) HBZ.out
        have m9 : Mod (fun b => b = w.heap.size) vz w9 := by rw [hw9]; exact (Mod.refl (fun b => b = w.heap.size) vz).setCell (p := ⟨w.heap.size, 0, none⟩) (fun _ => rfl) _
        rw [← hw9]
        clear hw9 c0 f0
        have q3' := m9.cell q3 hn1
        have q4' := m9.cell q4 hn1
        refine hK _ _ ⟨q4', q3'⟩ ?_
        clear hK K q3 q4
        go_wp2_with (first
          | (refine ord_pure rfl rfl rfl (fun K hK => ?_); go_big_quiet_op; refine hK _ ?_; clear hK K)
                        | (refine ord_skip rfl rfl ?_; simp only [Act.put, List.setIfInBounds_toArray, List.set_cons_zero, List.set_cons_succ])
                        | (refine ord_held rfl rfl rfl (⟨by simpa using q4', by simpa using q3'⟩) (fun K hK => ?_); apply Exists.intro; refine ⟨fun w' hs => ?_, hK _ ?_⟩; (revert hs; dsimp only; (try simp only [and_imp]); intros; go_simp; rfl); clear hK K)
                        | (refine ord_keep rfl rfl (⟨by simpa using q4', by simpa using q3'⟩) (fun K hK => ?_))
                        | (refine ord_drop rfl rfl (fun K hK => ?_))
                        | (refine ord_nil ?_))
        go_wp2_with fail
        have e0 := cell_at (j := 0) b9 rfl
        refine bodyPost_ret (v := .tuple #[.agg #[.slice none 0 0], .int .i64 x.2, .int .i64 x.1]) (by simp [results, Tryd.results13, go_sem, e0]) rfl ?_
        exact ⟨.inl ⟨x, HX.out, rfl⟩, new_mod (HMZ.out.trans (m9.mono fun _ _ e => Nat.le_of_eq e.symm)).drew⟩
      have HR2 := Lib.hid (show progGo R.S 1025 0 [] = (ruleP R.S k').bind fun r => progGo R.S n r.2.1 (xs.map Prod.fst ++ [r.1]) by rw [HL.out, HRM.out, hx]; rfl)
      have h63 := roomP_ok hx
      have HA5 := Lib.hid (HA3.out.call hM)
      have HPT := Lib.hid (refRule_any R k' ag' v5 hS)
      have HZ5 := Lib.hid (show w1.heap.size ≤ v5.heap.size by have := HA5.out.lt; have := HA5.out.hg; omega)
      clear hx hS hM HRC d0 d0a hn3 hn3' HA3 HRM HL
      go_wp2_with fail
      refine HPT.out.mono ?_
      rintro e v6 (⟨x, hx, ⟨js, ja, jn, jc, jb, jm, jd, rfl⟩, hE, hM⟩ | ⟨⟨⟨⟨p, ts⟩, ls⟩, k6, ag6⟩, hx, ⟨v, u, rfl, hT, hLs, hS⟩, hM⟩)
      · have HX := Lib.hid (HXe.out x (by rw [HR2.out, hx]; rfl))
        have m7 : Mod (fun _ => False) v6 (v6.alloc (.cells #[.string js, .slice ja jn jc, .slice jb jm jd] 40)) := (Mod.refl _ v6).alloc _
        have HE := Lib.hid (hE.mod0 m7)
        have HA6 := Lib.hid ((HA5.out.call hM).call0 m7)
        have HBZ := Lib.hid HA6.out.b0
        have HMZ := Lib.hid HA6.out.md
        clear hx hE hM m7 HPT HR2 HA5 HA6
        go_wp2_with fail
        obtain ⟨vz, hvz⟩ : ∃ vz, vz = v6.alloc (.cells #[.string js, .slice ja jn jc, .slice jb jm jd] 40) := ⟨_, rfl⟩
        rw [← hvz] at HE HBZ HMZ ⊢
        clear hvz
        obtain ⟨ie, ige, hbk⟩ := HE.out
        have q3 := hbk.c3
        have q4 := hbk.c4
        have c0 := cell_at (j := 0) HBZ.out rfl
        have f0 : vz.frozen? ⟨w.heap.size, 0, none⟩ = false := frozen_at HBZ.out
        have hn1 : ¬ R.b = w.heap.size := by have := HRB.out; omega
        have hn2 : ¬ w.heap.size = R.b := fun e => hn1 e.symm
        clear hbk
        refine wp_region_ord (fun w' => w'.cell? ⟨R.b, 4, none⟩ = some (.int .i64 x.2) ∧ w'.cell? ⟨R.b, 3, none⟩ = some (.int .i64 x.1)) [(0, 0), (0, 1), (0, 2), (0, 3), (1, 4), (0, 5), (0, 6), (0, 7), (1, 8), (2, 9), (0, 10), (0, 11)] (by kernel_rfl) (by kernel_rfl) ?_
        go_wp2_with (first
          | (refine ord_pure rfl rfl rfl (fun K hK => ?_); go_big_quiet_op; refine hK _ ?_; clear hK K)
                        | (refine ord_skip rfl rfl ?_; simp only [Act.put, List.setIfInBounds_toArray, List.set_cons_zero, List.set_cons_succ])
                        | (refine ord_held rfl rfl rfl (⟨by simpa using q4, by simpa using q3⟩) (fun K hK => ?_); apply Exists.intro; refine ⟨fun w' hs => ?_, hK _ ?_⟩; (revert hs; dsimp only; (try simp only [and_imp]); intros; go_simp; rfl); clear hK K)
                        | (refine ord_keep rfl rfl (⟨by simpa using q4, by simpa using q3⟩) (fun K hK => ?_))
                        | (refine ord_drop rfl rfl (fun K hK => ?_))
                        | (refine ord_nil ?_))
        obtain ⟨w9, hw9⟩ : ∃ w9, w9 = vz.setCell ⟨w.heap.size, 0, none⟩ (.slice none 0 0) := ⟨_, rfl⟩
        have b9 : w9.heap[w.heap.size]? = some (.cells #[.slice none 0 0] 26 (0, 0)) := by rw [hw9]; exact heap_setCell_at (j := 0) (.slice none 0 0) HBZ.out
        have m9 : Mod (fun b => b = w.heap.size) vz w9 := by rw [hw9]; exact (Mod.refl (fun b => b = w.heap.size) vz).setCell (p := ⟨w.heap.size, 0, none⟩) (fun _ => rfl) _
        rw [← hw9]
        clear hw9 c0 f0
        have q3' := m9.cell q3 hn1
        have q4' := m9.cell q4 hn1
        refine hK _ _ ⟨q4', q3'⟩ ?_
        clear hK K q3 q4
        go_wp2_with (first
          | (refine ord_pure rfl rfl rfl (fun K hK => ?_); go_big_quiet_op; refine hK _ ?_; clear hK K)
                        | (refine ord_skip rfl rfl ?_; simp only [Act.put, List.setIfInBounds_toArray, List.set_cons_zero, List.set_cons_succ])
                        | (refine ord_held rfl rfl rfl (⟨by simpa using q4', by simpa using q3'⟩) (fun K hK => ?_); apply Exists.intro; refine ⟨fun w' hs => ?_, hK _ ?_⟩; (revert hs; dsimp only; (try simp only [and_imp]); intros; go_simp; rfl); clear hK K)
                        | (refine ord_keep rfl rfl (⟨by simpa using q4', by simpa using q3'⟩) (fun K hK => ?_))
                        | (refine ord_drop rfl rfl (fun K hK => ?_))
                        | (refine ord_nil ?_))
        go_wp2_with fail
        have e0 := cell_at (j := 0) b9 rfl
        refine bodyPost_ret (v := .tuple #[.agg #[.slice none 0 0], .int .i64 x.2, .int .i64 x.1]) (by simp [results, Tryd.results13, go_sem, e0]) rfl ?_
        exact ⟨.inl ⟨x, HX.out, rfl⟩, new_mod (HMZ.out.trans (m9.mono fun _ _ e => Nat.le_of_eq e.symm)).drew⟩
      have HR3 := Lib.hid (show progGo R.S 1025 0 [] = progGo R.S n k6 (xs.map Prod.fst ++ [⟨⟨p, ts⟩, ls⟩]) by rw [HR2.out, hx]; rfl)
      have hT' := hT
      obtain ⟨ta, tc, hv, -, -⟩ := hT'
      subst hv
      have hLs' := hLs
      obtain ⟨ba, bc, ys, hv, -, -, -, -⟩ := hLs'
      subst hv
      have HTG := Lib.hid (hT.mono (lo' := w1.heap.size) HZ5.out)
      have HLG := Lib.hid (hLs.mono (lo' := w1.heap.size) HZ5.out)
      have HA6 := Lib.hid (HA5.out.call hM)
      have HS6 := Lib.hid hS
      have m7 : Mod (fun _ => False) v6 ((v6.alloc (.cells #[.string p, .slice ta ts.length tc, .slice ba ls.length bc] 40)).alloc (.cells #[.string p, .slice ta ts.length tc, .slice ba ls.length bc] 40)) := ((Mod.refl _ v6).alloc _).alloc _
      have HM7 := Lib.hid m7
      have HO7 := Lib.hid (HA6.out.own.mod m7 (fun _ _ => id))
      have HB7 := Lib.hid (m7.at HA6.out.b1 id)
      have HFR := Lib.hid HA6.out.fr
      have d0 := cell_at (j := 0) HA6.out.b1 rfl
      have d0a := ((Mod.refl (fun _ => False) v6).alloc (.cells #[.string p, .slice ta ts.length tc, .slice ba ls.length bc] 40)).cell d0 id
      unfold rmV
      clear hx hM hS hT hLs HPT HR2 HA5 m7
      go_wp2_with (first
        | (at_builtin; refine wpL_append rfl (.tmp 53) (.tmp 55) 24 24 rfl tiR rfl HO7.out rfl (Src.ofRd tiR.ht 1 1 (Rd.news _ [_, _, _] 40) (by simp) (by simp [Value.oneCell'])) (by omega) (by unfold maxLen; omega) ?_; intro a3 c3 w9 hO9 hG9 _
           have hb9 := hG9.mod.at HB7.out (fun e => (HFR.out _ e).2 rfl)
           have y1 := cell_at (j := 0) hb9 rfl
           have y1f : w9.frozen? ⟨g1, 0, none⟩ = false := frozen_at hb9
           have hT := HA6.out.step HS6.out (⟨⟨p, ts⟩, ls⟩, .slice ta ts.length tc, .slice ba ls.length bc) HTG.out HLG.out rfl hO9 ⟨_, HM7.out, hG9⟩
           have HT := Lib.hid hT
           clear hO9 hG9 hb9 hT HO7 HB7 HM7 HA6 HS6 HTG HLG d0 d0a)
        | fail)
      obtain ⟨w10, hw10⟩ : ∃ w10, w10 = w9.setCell ⟨g1, 0, none⟩ (.slice a3 (xs.length + 1) c3) := ⟨_, rfl⟩
      rw [← hw10] at HT
      rw [← hw10]
      clear hw10 y1 y1f
      have HA10 := Lib.hid HT.out.1; have HS10 := Lib.hid HT.out.2
      have hmap : (xs ++ [((⟨⟨p, ts⟩, ls⟩ : Rm), Value.slice ta ts.length tc, Value.slice ba ls.length bc)]).map Prod.fst = xs.map Prod.fst ++ [⟨⟨p, ts⟩, ls⟩] := by simp
      have HL2 := Lib.hid (HR3.out.trans (by rw [← hmap]))
      clear HT HFR HR3 hmap
      go_roundg n
      case measure => omega
      case rel => exact ⟨k6, ag6, _, a3, c3, by simp; have := hnl.out; omega, by have := hnl.out; omega, HA10, HS10, HL2⟩
end Go.Proofs.YtgplagdehfhffaaDoor
