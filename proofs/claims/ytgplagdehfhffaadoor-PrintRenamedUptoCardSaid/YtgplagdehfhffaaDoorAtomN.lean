/-
  slices.Clone of terms; print.renamer.atom walked.
-/
import Derived.Test.YtgplagdehfhffaaDoorTermN
import Derived.Test.YtgplagdehfhffaaDoorOwn3
namespace Go.Proofs.YtgplagdehfhffaaDoor
open Go Go.RowKit Go.Mine
set_option linter.unusedVariables false
set_option maxHeartbeats 8000000
set_option maxRecDepth 100000

theorem clone_any (ts : List Tm) (s : Value) (w : World) (ht : TsAt w s ts) (hn : ts.length < 2 ^ 30) :
    Calls Tryd.prog 134 #[s] w fun e w' => ∃ a c, e = .returned (.slice a ts.length c) ∧ Mine.Own w' 60 2 a ts.length c (tmsC ts) ∧ Mod (fun _ => False) w w' ∧ (∀ b, blk a = some b → w.heap.size ≤ b) := by
  obtain ⟨a, c, rfl, hr⟩ := ht
  have q22 : ∀ (w : World) (a : Option Addr) (n c n' c' : Nat), (binOp .eql 35 (.slice a n c) (.slice none n' c')).run Tryd.prog w = .ok (.bool a.isNone) w := fun w a n c n' c' => Lib.run_eql_slice_nil w _ _ a n c n' c' Tryd.underlying35
  cases a with
  | none =>
    have hts : ts = [] := by
      cases ts with
      | nil => rfl
      | cons t ts => obtain ⟨b, o, e, _⟩ := hr 0 _ rfl; cases e
    subst hts
    clear hr
    go_enter Tryd.func134, Tryd.ntmps134
    go_wp2_with fail
    go_ret
    exact ⟨none, 0, rfl, Mine.Own.nil _ _ _, Mod.refl _ _, by simp⟩
  | some ad =>
    have HR := Lib.hid hr; clear hr
    go_enter Tryd.func134, Tryd.ntmps134
    go_wp2_with (at_builtin; refine wpL_append rfl (.tmp 5) (.tmp 6) 35 35 rfl tiT rfl (own_madeg w 60 2 w.heap.size rfl) rfl (Src.ofRd tiT.ht ts.length c (HR.out.mod ((Mod.refl (fun _ => False) w).alloc _) (fun _ _ => id)) (tmsC_length ts) (tmsC_one ts)) (by omega) (by unfold maxLen; omega) ?_; intro a2 c2 w2 hO2 hG2 _
                 simp only [Nat.zero_add, List.nil_append] at hO2
                 simp only [Nat.zero_add]
                 have HO2 := Lib.hid hO2; have HG2 := Lib.hid hG2; clear hO2 hG2)
    go_ret
    refine ⟨a2, c2, rfl, HO2.out, grow_mod0 ((Mod.refl (fun _ => False) w).alloc _) HG2.out (Nat.le_refl _), fun b hb => ?_⟩
    rcases HG2.out.pos with e | ⟨g, e, hg⟩
    · rw [e] at hb; simp at hb; omega
    · rw [e] at hb; cases hb; simp at hg; omega
theorem tms_set : ∀ (l : List Tm) (k : Nat) (t : Tm), k < l.length → ((tmsC l).set (k * 2) (.int .i64 t.kind)).set (k * 2 + 1) (.string t.text) = tmsC (l.set k t)
  | [], k, t, h => by simp at h
  | x :: l, 0, t, _ => rfl
  | x :: l, k + 1, t, h => by
    have e : tmsC (x :: l) = .int .i64 x.kind :: .string x.text :: tmsC l := rfl
    have e2 : tmsC (x :: l.set k t) = .int .i64 x.kind :: .string x.text :: tmsC (l.set k t) := rfl
    rw [List.set_cons_succ, e2, ← tms_set l k t (by simpa using h), e, show (k + 1) * 2 = k * 2 + 1 + 1 by omega, show k * 2 + 1 + 1 + 1 = (k * 2 + 1) + 1 + 1 by omega]
    rfl
theorem ratom_any (p : ByteArray) (ts : List Tm) (s : Value) (ns : List ByteArray) (B : Nat) (w0 w : World) (ht : TsAt w0 s ts) (hm0 : Mod (fun _ => False) w0 w) (hB : w0.heap.size ≤ B) (hB3 : B ≠ 3)
    (hk : ∀ t ∈ ts, 1 ≤ t.kind ∧ t.kind ≤ 7 ∧ t.text.size < 2 ^ 30) (hn : ns.length + ts.length < 2 ^ 30) (hm : MapIs w B ns) (hp : Pow w) :
    Calls Tryd.prog 82 #[.map (some B), .agg #[.string p, s]] w fun e w' => ∃ s', e = .returned (.agg #[.string p, s']) ∧ TsF w' (fun b => w.heap.size ≤ b) s' (nmTs ns ts).1 ∧ MapIs w' B (nmTs ns ts).2 ∧ Mod (fun b => b = B) w w' := by
  have hBl := hm.lt
  have hp3 := hp.lt
  have HT := Lib.hid (ht.mod0 hm0)
  obtain ⟨sa, sc, rfl, _⟩ := ht
  have hb0 : ((w.alloc (.cells #[.string p, .slice sa ts.length sc] 37)).alloc (.cells #[.string ⟨#[]⟩, .slice none 0 0] 37)).heap[w.heap.size]? = some (.cells #[.string p, .slice sa ts.length sc] 37 (0, 0)) := by
    show ((w.heap.push _).push _)[w.heap.size]? = _
    simp [Array.getElem?_push]
  have hb1 : ((w.alloc (.cells #[.string p, .slice sa ts.length sc] 37)).alloc (.cells #[.string ⟨#[]⟩, .slice none 0 0] 37)).heap[w.heap.size + 1]? = some (.cells #[.string ⟨#[]⟩, .slice none 0 0] 37 (0, 0)) := by
    have := heap_alloc_new (w.alloc (.cells #[.string p, .slice sa ts.length sc] 37)) (.cells #[.string ⟨#[]⟩, .slice none 0 0] 37)
    simpa using this
  have hm1 : Mod (fun _ => False) w ((w.alloc (.cells #[.string p, .slice sa ts.length sc] 37)).alloc (.cells #[.string ⟨#[]⟩, .slice none 0 0] 37)) := ((Mod.refl _ w).alloc _).alloc _
  have hz1 : ((w.alloc (.cells #[.string p, .slice sa ts.length sc] 37)).alloc (.cells #[.string ⟨#[]⟩, .slice none 0 0] 37)).heap.size = w.heap.size + 2 := by simp
  have HC := Lib.hid (clone_any ts _ _ (HT.out.mod0 hm1) (by omega))
  have HH := Lib.hid (And.intro hb0 (And.intro hb1 (And.intro hm1 (And.intro hz1 (And.intro (hm.mod hm1 id) (hp.mod0 hm1))))))
  have HK := Lib.hid hk
  clear hb0 hb1 hm1 hz1 hm hp hm0 hk
  go_enter Tryd.func82, Tryd.ntmps82
  go_wp2_with fail
  obtain ⟨w1, hw1⟩ : ∃ w1, w1 = ((w.alloc (.cells #[.string p, .slice sa ts.length sc] 37)).alloc (.cells #[.string ⟨#[]⟩, .slice none 0 0] 37)) := ⟨_, rfl⟩
  rw [← hw1] at HC HH ⊢
  clear hw1
  obtain ⟨hb0, hb1, hm1, hz1, hM1, hP1⟩ := HH.out
  refine HC.out.mono ?_
  rintro e w2 ⟨ac, cc, rfl, hOc, hM2, hfc⟩
  have k0 := hM2.at hb0 id
  have k1 := hM2.at hb1 id
  have c0 := cell_at (j := 0) k0 rfl
  have c1 := cell_at (j := 1) k0 rfl
  have f1 : w2.frozen? ⟨w.heap.size, 1, none⟩ = false := frozen_at k0
  have hms : Mod (fun b => b = w.heap.size) w2 (w2.setCell ⟨w.heap.size, 1, none⟩ (.slice ac ts.length cc)) := (Mod.refl (fun b => b = w.heap.size) w2).setCell (p := ⟨w.heap.size, 1, none⟩) (fun _ => rfl) _
  have hq0 := heap_setCell_at (j := 1) (.slice ac ts.length cc) k0
  have hq0' : (w2.setCell ⟨w.heap.size, 1, none⟩ (.slice ac ts.length cc)).heap[w.heap.size]? = some (.cells #[.string p, .slice ac ts.length cc] 37 (0, 0)) := hq0
  have hMM : Mod (fun _ => False) w (w2.setCell ⟨w.heap.size, 1, none⟩ (.slice ac ts.length cc)) := (hm1.trans hM2).step hms (fun i hi e => by omega)
  have HL := Lib.hid (And.intro hq0' (And.intro (hms.at k1 (by omega)) (And.intro (hOc.mod hms (fun b hb e => by have := hfc b hb; omega)) (And.intro ((hM1.mod hM2 id).mod hms (by omega)) (And.intro ((hP1.mod0 hM2).mod hms (by omega)) hMM)))))
  have hfc2 : ∀ b, blk ac = some b → w.heap.size + 2 ≤ b ∧ b ≠ 3 := fun b hb => by have := hfc b hb; omega
  have hz2 : w.heap.size + 2 ≤ (w2.setCell ⟨w.heap.size, 1, none⟩ (.slice ac ts.length cc)).heap.size := by have := hM2.size; simp; omega
  clear hms hq0 hq0' k0 k1 hOc hM2 hfc hM1 hP1 hm1 hz1 hb0 hb1 HC HH hMM
  go_wp2_with fail
  obtain ⟨w3, hw3⟩ : ∃ w3, w3 = w2.setCell ⟨w.heap.size, 1, none⟩ (.slice ac ts.length cc) := ⟨_, rfl⟩
  rw [← hw3] at HL hz2 ⊢
  clear hw3 c0 c1 f1
  obtain ⟨hq0, hq1, hO0, hM0, hP0, hMM⟩ := HL.out
  have HFC := Lib.hid hfc2
  have HQ0 := Lib.hid hq0; have HQ1 := Lib.hid hq1; have HO0 := Lib.hid hO0; have HM0 := Lib.hid hM0; have HP0 := Lib.hid hP0; have HMM := Lib.hid hMM
  clear hq0 hq1 hO0 hM0 hP0 hMM HL hfc2
  go_loopw [14] (fun iv wr => ∃ k : Nat, iv = .int .i64 k ∧ k ≤ ts.length ∧ Hid (Mine.Own wr 60 2 ac ts.length cc (tmsC ((nmTs ns (ts.take k)).1 ++ ts.drop k))) ∧ Hid (MapIs wr B (nmTs ns (ts.take k)).2) ∧
      Hid (Mod (fun b => b = B ∨ blk ac = some b) w3 wr)) (fun iv _ => ts.length - (intOf iv).toNat)
  case atStart => exact ⟨0, rfl, Nat.zero_le _, HO0, HM0, Lib.hid (Mod.refl _ _)⟩
  case round =>
    obtain ⟨k, rfl, hk, hO, hMp, hM⟩ := hrel
    have hac : ∀ b, b < w.heap.size + 2 → ¬ (blk ac = some b) := fun b hb e => by have := (HFC.out b e).1; omega
    have q0 := hM.out.at HQ0.out (by rintro (e | e); omega; exact hac _ (by omega) e)
    have q1 := hM.out.at HQ1.out (by rintro (e | e); omega; exact hac _ (by omega) e)
    have hpw := HP0.out.mod hM.out (by rintro (e | e); exact hB3 e.symm; exact (HFC.out _ e).2 rfl)
    have c0 := cell_at (j := 0) q0 rfl
    have c1 := cell_at (j := 1) q0 rfl
    have hsw : w.heap.size + 2 ≤ wr.heap.size := Nat.le_trans hz2 hM.out.size
    have HPW := Lib.hid hpw; have Q0 := Lib.hid q0; have Q1 := Lib.hid q1
    clear q0 q1 hpw hac
    by_cases hlt : k < ts.length
    · have hlen : ((nmTs ns (ts.take k)).1 ++ ts.drop k).length = ts.length := by
        rw [List.length_append, nmTs_len, List.length_take, List.length_drop]; omega
      have hget : ((nmTs ns (ts.take k)).1 ++ ts.drop k)[k]? = some ts[k] := by
        have h1 : (nmTs ns (ts.take k)).1.length = k := by rw [nmTs_len, List.length_take]; omega
        rw [List.getElem?_append_right (by omega), h1, Nat.sub_self, List.drop_eq_getElem_cons hlt]
        rfl
      obtain ⟨hg0, hg1⟩ := tmsC_get hget
      obtain ⟨gc, rfl⟩ := hO.out.atHead (by omega)
      obtain ⟨b, o, hbe, x0⟩ := hO.out.rd _ _ hg0
      cases hbe
      obtain ⟨b, o, hbe, x1⟩ := hO.out.rd _ _ hg1
      cases hbe
      rw [Nat.zero_add] at x0 x1
      have hst := nmTs_snoc ns (ts.take k) ts[k]
      rw [← List.take_succ_eq_append_getElem hlt] at hst
      have hset : ((nmTs ns (ts.take k)).1 ++ ts.drop k).set k (nmTm (nmTs ns (ts.take k)).2 ts[k]).1 = (nmTs ns (ts.take (k + 1))).1 ++ ts.drop (k + 1) := by
        have h1 : (nmTs ns (ts.take k)).1.length = k := by rw [nmTs_len, List.length_take]; omega
        rw [List.set_append_right _ _ (by omega), h1, Nat.sub_self, List.drop_eq_getElem_cons hlt, List.set_cons_zero, hst, List.append_assoc]
        rfl
      have hNl : (nmTs ns (ts.take k)).2.length < 2 ^ 30 := by
        have := nmTs_le ns (ts.take k)
        rw [List.length_take] at this
        omega
      have hkt := HK.out _ (List.getElem_mem hlt)
      have hmb : Mod (fun _ => False) wr (wr.alloc (.cells #[.int .i64 ts[k].kind, .string ts[k].text] 60)).drew := ((Mod.refl _ wr).alloc _).drew
      have HT1 := Lib.hid (rnterm_any ts[k] _ B _ hkt.1 hkt.2.1 hkt.2.2 hNl (hMp.out.mod hmb id) (HPW.out.mod0 hmb) hB3)
      unfold tmV at HT1
      have HST := Lib.hid hst; have HSET := Lib.hid hset; have HMB := Lib.hid hmb
      have HTL := Lib.hid hlen
      clear hg0 hg1 hst hset hkt hmb hget hlen
      obtain ⟨⟨t1k, t1⟩, ht1⟩ : ∃ t1, t1 = (nmTm (nmTs ns (ts.take k)).2 ts[k]).1 := ⟨_, rfl⟩
      rw [← ht1] at HT1 HST HSET
      clear ht1
      have hbx := heap_alloc_new wr (.cells #[.int .i64 ts[k].kind, .string ts[k].text] 60)
      have HBX := Lib.hid hbx
      clear hbx
      generalize ts[k] = t at *
      have c1' := HMB.out.cell c1 id
      have b0 : (wr.alloc (.cells #[.int .i64 t.kind, .string t.text] 60)).drew.cell? ⟨wr.heap.size, 0, none⟩ = some (.int .i64 t.kind) := cell_at (w := (wr.alloc (.cells #[.int .i64 t.kind, .string t.text] 60)).drew) HBX.out rfl
      have b1 : (wr.alloc (.cells #[.int .i64 t.kind, .string t.text] 60)).drew.cell? ⟨wr.heap.size, 1, none⟩ = some (.string t.text) := cell_at (w := (wr.alloc (.cells #[.int .i64 t.kind, .string t.text] 60)).drew) HBX.out rfl
      have HC1 := Lib.hid c1'; have HB0 := Lib.hid b0; have HB1 := Lib.hid b1
      clear c1' b0 b1
      go_wp2_with fail
      refine wp_region_ord (fun w' => w'.cell? ⟨w.heap.size, 1, none⟩ = some (.slice (some ⟨gc, 0, none⟩) ts.length cc) ∧ w'.cell? ⟨wr.heap.size, 0, none⟩ = some (.int .i64 t.kind) ∧ w'.cell? ⟨wr.heap.size, 1, none⟩ = some (.string t.text)) [(0, 0), (1, 1), (0, 2), (0, 3), (1, 4), (2, 5), (0, 6), (3, 7)] (by kernel_rfl) (by kernel_rfl) ?_
      go_wp2_with (first
        | (refine ord_pure rfl rfl rfl (fun K hK => ?_); go_big_quiet_op; refine hK _ ?_; clear hK K)
                        | (refine ord_skip rfl rfl ?_; simp only [Act.put, List.setIfInBounds_toArray, List.set_cons_zero, List.set_cons_succ])
                        | (refine ord_held rfl rfl rfl (⟨HC1.out, HB0.out, HB1.out⟩) (fun K hK => ?_); apply Exists.intro; refine ⟨fun w' hs => ?_, hK _ ?_⟩; (revert hs; dsimp only; (try simp only [and_imp]); intros; go_simp; rfl); clear hK K)
                        | (refine ord_keep rfl rfl (⟨HC1.out, HB0.out, HB1.out⟩) (fun K hK => ?_))
                        | (refine ord_drop rfl rfl (fun K hK => ?_))
                        | (refine ord_nil ?_))
      refine HT1.out.mono ?_
      rintro e w5 ⟨rfl, hm5, hM5⟩
      have hMt := HMB.out.mono (T := fun b => b = B) (fun _ _ h => h.elim)
      have hMr := hMt.trans hM5
      have hgB : gc ≠ B := by have := (HFC.out gc rfl).1; omega
      have hO5 := hO.out.mod hMr (fun b hb e => by cases hb; exact hgB e)
      have y0 := hMr.cell x0 (fun e => hgB e)
      have y1 := hMr.cell x1 (fun e => hgB e)
      have g0 := hO5.frozen (o := k * 2) (b := gc) rfl
      have g1 := hO5.frozen (o := k * 2 + 1) (b := gc) rfl
      refine hK _ _ ⟨hM5.cell HC1.out (by show ¬ w.heap.size = B; omega), hM5.cell HB0.out (by show ¬ wr.heap.size = B; omega), hM5.cell HB1.out (by show ¬ wr.heap.size = B; omega)⟩ ?_; clear hK K
      have HMR := Lib.hid hMr; have HO5 := Lib.hid hO5; have HM5 := Lib.hid hm5
      clear hMt hMr hO5 hm5 hM5 x0 x1
      go_wp2_with (first
        | (refine ord_pure rfl rfl rfl (fun K hK => ?_); go_big_quiet_op; refine hK _ ?_; clear hK K)
                        | (refine ord_skip rfl rfl ?_; simp only [Act.put, List.setIfInBounds_toArray, List.set_cons_zero, List.set_cons_succ])
                        | (refine ord_held rfl rfl rfl (trivial) (fun K hK => ?_); apply Exists.intro; refine ⟨fun w' hs => ?_, hK _ ?_⟩; (revert hs; dsimp only; (try simp only [and_imp]); intros; go_simp; rfl); clear hK K)
                        | (refine ord_keep rfl rfl (trivial) (fun K hK => ?_))
                        | (refine ord_drop rfl rfl (fun K hK => ?_))
                        | (refine ord_nil ?_))
      have hms : Mod (fun b => b = gc) w5 ((w5.setCell ⟨gc, k * 2, none⟩ (.int .i64 t1k)).setCell ⟨gc, k * 2 + 1, none⟩ (.string t1)) := ((Mod.refl (fun b => b = gc) w5).setCell (p := ⟨gc, k * 2, none⟩) (fun _ => rfl) _).setCell (p := ⟨gc, k * 2 + 1, none⟩) (fun _ => rfl) _
      have hOs := (HO5.out.store (k * 2) (.int .i64 t1k)).store (k * 2 + 1) (.string t1)
      have htt := tms_set _ k ⟨t1k, t1⟩ (by rw [HTL.out]; exact hlt)
      simp only at htt
      rw [htt, HSET.out] at hOs
      have H1 := Lib.hid hOs
      have H2 := Lib.hid (HM5.out.mod hms (fun e => hgB e.symm))
      have H3 : Hid (Mod (fun b => b = B ∨ blk (some (⟨gc, 0, none⟩ : Addr)) = some b) w3 ((w5.setCell ⟨gc, k * 2, none⟩ (.int .i64 t1k)).setCell ⟨gc, k * 2 + 1, none⟩ (.string t1))) := (hM.out.step HMR.out (fun i _ e => .inl e)).step hms (fun i _ e => .inr (by rw [e]; rfl))
      clear hOs htt hms y0 y1 g0 g1
      go_roundw
      case rel => exact ⟨k + 1, by go_num, hlt, H1, by rw [HST.out]; exact H2, H3⟩
      case measure => simp [intOf]; omega
    · obtain rfl : k = ts.length := by omega
      rw [List.take_length, List.drop_length, List.append_nil] at hO
      rw [List.take_length] at hMp
      have r0 := cell_at (j := 0) Q1.out rfl
      have r1 := cell_at (j := 1) Q1.out rfl
      have g0 : wr.frozen? ⟨w.heap.size + 1, 0, none⟩ = false := frozen_at Q1.out
      have g1 : wr.frozen? ⟨w.heap.size + 1, 1, none⟩ = false := frozen_at Q1.out
      go_wp2_with fail
      have hms : Mod (fun b => b = w.heap.size + 1) wr ((wr.setCell ⟨w.heap.size + 1, 0, none⟩ (.string p)).setCell ⟨w.heap.size + 1, 1, none⟩ (.slice ac ts.length cc)) := ((Mod.refl (fun b => b = w.heap.size + 1) wr).setCell (p := ⟨w.heap.size + 1, 0, none⟩) (fun _ => rfl) _).setCell (p := ⟨w.heap.size + 1, 1, none⟩) (fun _ => rfl) _
      have hb2 := heap_setCell_at (j := 1) (.slice ac ts.length cc) (heap_setCell_at (j := 0) (.string p) Q1.out)
      have z0 := cell_at (j := 0) (u := .string p) hb2 rfl
      have z1 := cell_at (j := 1) (u := .slice ac ts.length cc) hb2 rfl
      generalize (wr.setCell ⟨w.heap.size + 1, 0, none⟩ (.string p)).setCell ⟨w.heap.size + 1, 1, none⟩ (.slice ac ts.length cc) = W at *
      refine bodyPost_ret (v := .agg #[.string p, .slice ac ts.length cc]) (by simp [results, Tryd.results82, go_sem, z0, z1]) rfl
        ⟨_, rfl, ⟨ac, cc, by rw [nmTs_len], (hO.out.mod hms (fun b hb e => by have := (HFC.out b hb).1; omega)).rd, fun _ b hb => by have := (HFC.out b hb).1; omega⟩, hMp.out.mod hms (by omega), ?_⟩
      exact (HMM.out.mono (T := fun b => b = B) (fun _ _ h => h.elim)).step ((hM.out.mono (T := fun b => b = B ∨ w.heap.size ≤ b) (fun b _ h => h.imp id (fun e => by have := (HFC.out b e).1; omega))).step hms (fun i hi e => .inr (by omega))) (fun i hi e => by omega)
end Go.Proofs.YtgplagdehfhffaaDoor
