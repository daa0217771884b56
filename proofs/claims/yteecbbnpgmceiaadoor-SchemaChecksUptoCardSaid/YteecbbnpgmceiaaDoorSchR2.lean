/-
  The document's Safe, walked.
-/
import Derived.Test.YteecbbnpgmceiaaDoorSchR1
import Derived.Test.YteecbbnpgmceiaaDoorSch3
namespace Go.Proofs.YteecbbnpgmceiaaDoor
open Go Go.RowKit Go.Mine
set_option linter.unusedVariables false
set_option maxHeartbeats 8000000
set_option maxRecDepth 100000

theorem negF_hit {ns : List ByteArray} {x : ByteArray} (h : hasS ns x = false) : negF ns ⟨1, x⟩ = ⟨2, 0, 0, x⟩ := by
  unfold negF breachL
  rw [if_neg (by simp), if_neg (by simp), if_pos (.inl rfl), if_neg (by rw [h]; simp)]
theorem negF_has {ns : List ByteArray} {x : ByteArray} (h : hasS ns x = true) : negF ns ⟨1, x⟩ = br0 := by
  unfold negF breachL
  rw [if_neg (by simp), if_neg (by simp), if_pos (.inl rfl), if_pos h]
theorem negF_no {ns : List ByteArray} {k : Int} {x : ByteArray} {p : Prop} (h : k ≠ 1) (_ : p) : negF ns ⟨k, x⟩ = br0 := by unfold negF; rw [if_pos h]
theorem cmpF_hit {ns : List ByteArray} {x : ByteArray} (h : hasS ns x = false) : cmpF ns ⟨1, x⟩ = ⟨2, 0, 0, x⟩ := by
  unfold cmpF breachL
  rw [if_neg (by simp), if_neg (by simp), if_pos (.inl rfl), if_neg (by rw [h]; simp)]
theorem cmpF_has {ns : List ByteArray} {x : ByteArray} (h : hasS ns x = true) : cmpF ns ⟨1, x⟩ = br0 := by
  unfold cmpF breachL
  rw [if_neg (by simp), if_neg (by simp), if_pos (.inl rfl), if_pos h]
theorem cmpF_no {ns : List ByteArray} {k : Int} {x : ByteArray} (h : k ≠ 1) (h2 : k ≠ 2) : cmpF ns ⟨k, x⟩ = br0 := by unfold cmpF; rw [if_pos ⟨h, h2⟩]
theorem cmpF_2 (ns : List ByteArray) (x : ByteArray) : cmpF ns ⟨2, x⟩ = ⟨1, 0, 0, emptyB⟩ := rfl
theorem bare_cases (ls : List Lm) : (bare ls = false ∧ ls.length ≠ 0) ∨ (bare ls = true ∧ ls.length = 0) := by
  unfold bare
  by_cases h : ls.length = 0
  · exact .inr ⟨decide_eq_true h, h⟩
  · exact .inl ⟨decide_eq_false h, h⟩
theorem headF_2 (ns : List ByteArray) (b : Bool) (x : ByteArray) : headF ns b ⟨2, x⟩ = ⟨1, 0, 0, emptyB⟩ := rfl
theorem headF_var {ns : List ByteArray} {b : Bool} {k : Int} {x : ByteArray} (h : k = 1 ∨ k = 5 ∨ k = 6 ∨ k = 7) (hh : hasS ns x = false) : headF ns b ⟨k, x⟩ = ⟨2, 0, 0, x⟩ := by
  have e : breachL ns false ⟨k, x⟩ = ⟨2, 0, 0, x⟩ := by
    unfold breachL
    rw [if_neg (by simp; omega), if_pos h, if_neg (by rw [hh]; simp)]
  unfold headF
  rw [e, if_neg (by simp)]
theorem headF_three {ns : List ByteArray} {k : Int} {x : ByteArray} (h : k = 4 ∨ ((k = 5 ∨ k = 6 ∨ k = 7) ∧ hasS ns x = true)) : headF ns true ⟨k, x⟩ = ⟨3, 0, 0, emptyB⟩ := by
  have e : breachL ns false ⟨k, x⟩ = br0 := by
    unfold breachL
    rw [if_neg (by simp; omega)]
    rcases h with rfl | ⟨h, hh⟩
    · rw [if_neg (by simp)]
    · rw [if_pos (.inr h), if_pos hh]
  unfold headF
  rw [e, if_pos ⟨rfl, by simp; omega, by simp; omega, rfl⟩]
theorem headF_ok0 {ns : List ByteArray} {b : Bool} {k : Int} {x : ByteArray} (h2 : k ≠ 2) (h : (k = 1 ∨ k = 5 ∨ k = 6 ∨ k = 7) → hasS ns x = true) (h3 : 4 ≤ k → k ≤ 7 → b = false) : headF ns b ⟨k, x⟩ = br0 := by
  have e : breachL ns false ⟨k, x⟩ = br0 := by
    unfold breachL
    rw [if_neg (by simpa using h2)]
    by_cases hh : k = 1 ∨ k = 5 ∨ k = 6 ∨ k = 7
    · rw [if_pos hh, if_pos (h hh)]
    · rw [if_neg hh]
  unfold headF
  rw [e, if_neg (by rintro ⟨_, h4, h7, hb⟩; rw [h3 h4 h7] at hb; cases hb)]
theorem firstL_hit {f : Tm → Br} {lit : Int} {k : Nat} {t : Tm} {ts : List Tm} (h : (f t).kind ≠ 0) : firstL f lit k (t :: ts) = ⟨(f t).kind, lit, k, (f t).var⟩ := by rw [firstL, if_pos h]
theorem firstL_skip {f : Tm → Br} {lit : Int} {k : Nat} {t : Tm} {ts : List Tm} (h : f t = br0) : firstL f lit k (t :: ts) = firstL f lit (k + 1) ts := by rw [firstL, h, if_neg (by simp [br0])]
theorem refSafe_any (r : Rm) (s b : Value) (w : World) (ht : TsAt w s r.head.terms) (hl : LsAt w b r.body) (hn0 : r.head.terms.length ≤ 2 ^ 20) (hn : r.body.length ≤ 2 ^ 20) (hn2 : ∀ l ∈ r.body, l.atom.terms.length ≤ 2 ^ 20) :
    Calls Tryd.prog 25 #[rmV r s b] w fun e w' => e = .returned (.tuple #[brV (safeB r), .bool (okBr (safeB r))]) ∧ Mod (fun _ => False) w w' := by
  have hsf : safeB r = goB (boundL r.body) (firstL (headF (boundL r.body) (bare r.body)) (-1) 0 r.head.terms) 0 r.body := rfl
  have hm1 : Mod (fun _ => False) w ((w.alloc (.cells #[.string r.head.pred, s, b] 42)).alloc (.cells #[.int .i64 0, .int .i64 0, .int .i64 0, .string ⟨#[]⟩] 62)) := ((Mod.refl _ w).alloc _).alloc _
  obtain ⟨hb1, hb2⟩ := two_new w (.cells #[.string r.head.pred, s, b] 42) (.cells #[.int .i64 0, .int .i64 0, .int .i64 0, .string ⟨#[]⟩] 62)
  have HST := Lib.hid (fun x v (m : Mod (fun _ => False) w v) => stands_any r s b x v (hl.mod0 m) hn hn2)
  have HSF := Lib.hid hsf; have HN2 := Lib.hid hn2
  obtain ⟨⟨pr, hts⟩, ls⟩ := r
  unfold rmV at HST ⊢
  simp only at *
  obtain ⟨sa, sc, rfl, hrt⟩ := ht
  obtain ⟨ba, bc, xs, rfl, hx, hr, hxt⟩ := hl
  have HX := Lib.hid hx; have HR := Lib.hid hr; have HXT := Lib.hid hxt; have HRT := Lib.hid hrt
  clear hx hr hxt hsf hn2 hrt
  generalize safeB ⟨⟨pr, hts⟩, ls⟩ = fin at *
  generalize boundL ls = ns at *
  have c0 := cell_at (j := 0) hb1 rfl
  have c1 := cell_at (j := 1) hb1 rfl
  have c2 := cell_at (j := 2) hb1 rfl
  go_enter Tryd.func25, Tryd.ntmps25
  go_wp2_with fail
  clear c0 c1 c2
  generalize (w.alloc (.cells #[.string pr, .slice sa hts.length sc, .slice ba ls.length bc] 42)).alloc (.cells #[.int .i64 0, .int .i64 0, .int .i64 0, .string ⟨#[]⟩] 62) = w0 at *
  have HB1 := Lib.hid hb1; have HB2 := Lib.hid hb2; have HM0 := Lib.hid hm1
  clear hb1 hb2 hm1
  go_loopw [4] (fun iv wr => ∃ k : Nat, iv = .int .i64 k ∧ k ≤ hts.length ∧ Hid (firstL (headF ns (bare ls)) (-1) 0 hts = firstL (headF ns (bare ls)) (-1) k (hts.drop k)) ∧ Hid (Mod (fun _ => False) w0 wr)) (fun iv _ => hts.length - (intOf iv).toNat)
  case atStart => exact ⟨0, rfl, Nat.zero_le _, rfl, Lib.hid (Mod.refl _ _)⟩
  case round =>
    obtain ⟨k, rfl, hk, hF, hM⟩ := hrel
    have hbb := hM.out.at HB1.out id
    have d0 := cell_at (j := 0) hbb rfl
    have d1 := cell_at (j := 1) hbb rfl
    have d2 := cell_at (j := 2) hbb rfl
    by_cases hlt : k < hts.length
    · obtain ⟨b, o, rfl, x0, x1⟩ := rd_cell2 (HRT.out.mod (HM0.out.trans hM.out) (fun _ _ => id)) hlt
      have hd : hts.drop k = hts[k] :: hts.drop (k + 1) := List.drop_eq_getElem_cons hlt
      have hff := hF.out
      rw [hd] at hff
      have HF := Lib.hid hff
      clear hd hff hF
      generalize hts[k] = t at *
      obtain ⟨tk, tx⟩ := t
      simp only at x0 x1
      have hma : Mod (fun _ => False) wr (wr.alloc (.cells #[.int .i64 tk, .string tx] 72)) := (Mod.refl _ wr).alloc _
      have HMA : Hid (Mod (fun _ => False) w0 (wr.alloc (.cells #[.int .i64 tk, .string tx] 72))) := Lib.hid (hM.out.trans hma)
      have hba := hma.at hbb id
      have e0 := cell_at (j := 0) hba rfl
      have e1 := cell_at (j := 1) hba rfl
      have e2 := cell_at (j := 2) hba rfl
      have HSC := Lib.hid (HST.out tx _ (HM0.out.trans HMA.out))
      clear hma hba hbb
      by_cases h2 : tk = 2
      · subst h2
        have HFF : Hid (fin = ⟨1, -1, k, emptyB⟩) := Lib.hid (by rw [HSF.out, HF.out, firstL_hit (by rw [headF_2]; simp), headF_2]; exact goB_hit (by simp) _ _)
        have hb2 := HMA.out.at HB2.out id
        have c0 := cell_at (j := 0) hb2 rfl
        have c1 := cell_at (j := 1) hb2 rfl
        have c2 := cell_at (j := 2) hb2 rfl
        have c3 := cell_at (j := 3) hb2 rfl
        have f0 := frozen_at (j := 0) hb2
        have f1 := frozen_at (j := 1) hb2
        have f2 := frozen_at (j := 2) hb2
        have f3 := frozen_at (j := 3) hb2
        have HSB := Lib.hid (store_br (⟨1, -1, k, ⟨#[]⟩⟩ : Br) rfl hb2 (HM0.out.trans HMA.out) (by omega))
        clear hb2
        go_wp2_with fail
        have hc := HSB.out.2
        have q0 := cell_at (j := 0) hc rfl
        have q1 := cell_at (j := 1) hc rfl
        have q2 := cell_at (j := 2) hc rfl
        have q3 := cell_at (j := 3) hc rfl
        have hmm := HSB.out.1
        clear hc HSB c0 c1 c2 c3 f0 f1 f2 f3
        refine bodyPost_ret (v := .tuple #[.agg #[.int .i64 (1), .int .i64 (-1), .int .i64 (k), .string (⟨#[]⟩)], .bool false]) ?_ rfl ⟨by rw [HFF.out]; rfl, hmm⟩
        simp [results, Tryd.results25, go_sem, q0, q1, q2, q3]
      · by_cases hv : tk = 1 ∨ tk = 5 ∨ tk = 6 ∨ tk = 7
        · cases hh : hasS ns tx
          · have HFF : Hid (fin = ⟨2, -1, k, tx⟩) := Lib.hid (by rw [HSF.out, HF.out, firstL_hit (by rw [headF_var hv hh]; simp), headF_var hv hh]; exact goB_hit (by simp) _ _)
            rw [hh] at HSC
            clear h2
            rcases hv with rfl | rfl | rfl | rfl
            all_goals
              go_wp2_with fail
              refine HSC.out.mono ?_
              rintro e w3 ⟨rfl, hM3⟩
              have HM3 := Lib.hid (HMA.out.trans hM3)
              have hb2 := HM3.out.at HB2.out id
              have c0 := cell_at (j := 0) hb2 rfl
              have c1 := cell_at (j := 1) hb2 rfl
              have c2 := cell_at (j := 2) hb2 rfl
              have c3 := cell_at (j := 3) hb2 rfl
              have f0 := frozen_at (j := 0) hb2
              have f1 := frozen_at (j := 1) hb2
              have f2 := frozen_at (j := 2) hb2
              have f3 := frozen_at (j := 3) hb2
              have HSB := Lib.hid (store_br (⟨2, -1, k, tx⟩ : Br) rfl hb2 (HM0.out.trans HM3.out) (by omega))
              clear hb2
              have t1 := hM3.cell (cell_new (w := wr) (cs := #[.int .i64 _, .string tx]) (e := 72) (j := 1) rfl rfl) id
              clear hM3
              go_wp2_with fail
              have hc := HSB.out.2
              have q0 := cell_at (j := 0) hc rfl
              have q1 := cell_at (j := 1) hc rfl
              have q2 := cell_at (j := 2) hc rfl
              have q3 := cell_at (j := 3) hc rfl
              have hmm := HSB.out.1
              clear hc HSB c0 c1 c2 c3 f0 f1 f2 f3
              refine bodyPost_ret (v := .tuple #[.agg #[.int .i64 (2), .int .i64 (-1), .int .i64 (k), .string (tx)], .bool false]) ?_ rfl ⟨by rw [HFF.out]; rfl, hmm⟩
              simp [results, Tryd.results25, go_sem, q0, q1, q2, q3]
          · rw [hh] at HSC
            rcases bare_cases ls with ⟨hb, hl0⟩ | ⟨hb, hl0⟩
            · have en : ((ls.length : Int) == 0) = false := beq_eq_false_iff_ne.2 (by omega)
              have h0 : headF ns (bare ls) ⟨tk, tx⟩ = br0 := headF_ok0 h2 (fun _ => hh) (fun _ _ => hb)
              clear h2 hh hb hl0
              rcases hv with rfl | rfl | rfl | rfl
              all_goals
                go_wp2_with fail
                refine HSC.out.mono ?_
                rintro e w3 ⟨rfl, hM3⟩
                have HM3 := Lib.hid (HMA.out.trans hM3)
                have t0 := hM3.cell (cell_new (w := wr) (cs := #[.int .i64 _, .string tx]) (e := 72) (j := 0) rfl rfl) id
                have t1 := hM3.cell (cell_new (w := wr) (cs := #[.int .i64 _, .string tx]) (e := 72) (j := 1) rfl rfl) id
                have g2 := hM3.cell e2 id
                clear hM3
                have HN := Lib.hid (HF.out.trans (firstL_skip (f := headF ns (bare ls)) (lit := -1) (k := k) (ts := hts.drop (k + 1)) (h0)))
                go_wp2_with fail
                go_roundw
                case rel => exact ⟨k + 1, by go_num, hlt, HN, HM3⟩
                case measure => simp [intOf]; omega
            · have en : ((ls.length : Int) == 0) = true := beq_iff_eq.2 (by omega)
              have HBB := Lib.hid hb; have HHH := Lib.hid hh
              clear h2 hl0 hb hh
              rcases hv with rfl | rfl | rfl | rfl
              · have h0 : headF ns (bare ls) ⟨1, tx⟩ = br0 := headF_ok0 (by simp) (fun _ => HHH.out) (fun h => by omega)
                go_wp2_with fail
                refine HSC.out.mono ?_
                rintro e w3 ⟨rfl, hM3⟩
                have HM3 := Lib.hid (HMA.out.trans hM3)
                have t0 := hM3.cell (cell_new (w := wr) (cs := #[.int .i64 _, .string tx]) (e := 72) (j := 0) rfl rfl) id
                have t1 := hM3.cell (cell_new (w := wr) (cs := #[.int .i64 _, .string tx]) (e := 72) (j := 1) rfl rfl) id
                have g2 := hM3.cell e2 id
                clear hM3
                have HN := Lib.hid (HF.out.trans (firstL_skip (f := headF ns (bare ls)) (lit := -1) (k := k) (ts := hts.drop (k + 1)) (h0)))
                go_wp2_with fail
                go_roundw
                case rel => exact ⟨k + 1, by go_num, hlt, HN, HM3⟩
                case measure => simp [intOf]; omega
              · skip
                go_wp2_with fail
                refine HSC.out.mono ?_
                rintro e w3 ⟨rfl, hM3⟩
                have HM3 := Lib.hid (HMA.out.trans hM3)
                have t0 := hM3.cell (cell_new (w := wr) (cs := #[.int .i64 _, .string tx]) (e := 72) (j := 0) rfl rfl) id
                have t1 := hM3.cell (cell_new (w := wr) (cs := #[.int .i64 _, .string tx]) (e := 72) (j := 1) rfl rfl) id
                have g2 := hM3.cell e2 id
                clear hM3
                have HFF : Hid (fin = ⟨3, -1, k, emptyB⟩) := Lib.hid (by rw [HSF.out, HF.out, HBB.out, firstL_hit (by rw [headF_three (.inr ⟨.inl rfl, HHH.out⟩)]; simp), headF_three (.inr ⟨.inl rfl, HHH.out⟩)]; exact goB_hit (by simp) _ _)
                have hb2 := HM3.out.at HB2.out id
                have c0 := cell_at (j := 0) hb2 rfl
                have c1 := cell_at (j := 1) hb2 rfl
                have c2 := cell_at (j := 2) hb2 rfl
                have c3 := cell_at (j := 3) hb2 rfl
                have f0 := frozen_at (j := 0) hb2
                have f1 := frozen_at (j := 1) hb2
                have f2 := frozen_at (j := 2) hb2
                have f3 := frozen_at (j := 3) hb2
                have HSB := Lib.hid (store_br (⟨3, -1, k, ⟨#[]⟩⟩ : Br) rfl hb2 (HM0.out.trans HM3.out) (by omega))
                clear hb2
                go_wp2_with fail
                have hc := HSB.out.2
                have q0 := cell_at (j := 0) hc rfl
                have q1 := cell_at (j := 1) hc rfl
                have q2 := cell_at (j := 2) hc rfl
                have q3 := cell_at (j := 3) hc rfl
                have hmm := HSB.out.1
                clear hc HSB c0 c1 c2 c3 f0 f1 f2 f3
                refine bodyPost_ret (v := .tuple #[.agg #[.int .i64 (3), .int .i64 (-1), .int .i64 (k), .string (⟨#[]⟩)], .bool false]) ?_ rfl ⟨by rw [HFF.out]; rfl, hmm⟩
                simp [results, Tryd.results25, go_sem, q0, q1, q2, q3]
              · skip
                go_wp2_with fail
                refine HSC.out.mono ?_
                rintro e w3 ⟨rfl, hM3⟩
                have HM3 := Lib.hid (HMA.out.trans hM3)
                have t0 := hM3.cell (cell_new (w := wr) (cs := #[.int .i64 _, .string tx]) (e := 72) (j := 0) rfl rfl) id
                have t1 := hM3.cell (cell_new (w := wr) (cs := #[.int .i64 _, .string tx]) (e := 72) (j := 1) rfl rfl) id
                have g2 := hM3.cell e2 id
                clear hM3
                have HFF : Hid (fin = ⟨3, -1, k, emptyB⟩) := Lib.hid (by rw [HSF.out, HF.out, HBB.out, firstL_hit (by rw [headF_three (.inr ⟨.inr (.inl rfl), HHH.out⟩)]; simp), headF_three (.inr ⟨.inr (.inl rfl), HHH.out⟩)]; exact goB_hit (by simp) _ _)
                have hb2 := HM3.out.at HB2.out id
                have c0 := cell_at (j := 0) hb2 rfl
                have c1 := cell_at (j := 1) hb2 rfl
                have c2 := cell_at (j := 2) hb2 rfl
                have c3 := cell_at (j := 3) hb2 rfl
                have f0 := frozen_at (j := 0) hb2
                have f1 := frozen_at (j := 1) hb2
                have f2 := frozen_at (j := 2) hb2
                have f3 := frozen_at (j := 3) hb2
                have HSB := Lib.hid (store_br (⟨3, -1, k, ⟨#[]⟩⟩ : Br) rfl hb2 (HM0.out.trans HM3.out) (by omega))
                clear hb2
                go_wp2_with fail
                have hc := HSB.out.2
                have q0 := cell_at (j := 0) hc rfl
                have q1 := cell_at (j := 1) hc rfl
                have q2 := cell_at (j := 2) hc rfl
                have q3 := cell_at (j := 3) hc rfl
                have hmm := HSB.out.1
                clear hc HSB c0 c1 c2 c3 f0 f1 f2 f3
                refine bodyPost_ret (v := .tuple #[.agg #[.int .i64 (3), .int .i64 (-1), .int .i64 (k), .string (⟨#[]⟩)], .bool false]) ?_ rfl ⟨by rw [HFF.out]; rfl, hmm⟩
                simp [results, Tryd.results25, go_sem, q0, q1, q2, q3]
              · skip
                go_wp2_with fail
                refine HSC.out.mono ?_
                rintro e w3 ⟨rfl, hM3⟩
                have HM3 := Lib.hid (HMA.out.trans hM3)
                have t0 := hM3.cell (cell_new (w := wr) (cs := #[.int .i64 _, .string tx]) (e := 72) (j := 0) rfl rfl) id
                have t1 := hM3.cell (cell_new (w := wr) (cs := #[.int .i64 _, .string tx]) (e := 72) (j := 1) rfl rfl) id
                have g2 := hM3.cell e2 id
                clear hM3
                have HFF : Hid (fin = ⟨3, -1, k, emptyB⟩) := Lib.hid (by rw [HSF.out, HF.out, HBB.out, firstL_hit (by rw [headF_three (.inr ⟨.inr (.inr rfl), HHH.out⟩)]; simp), headF_three (.inr ⟨.inr (.inr rfl), HHH.out⟩)]; exact goB_hit (by simp) _ _)
                have hb2 := HM3.out.at HB2.out id
                have c0 := cell_at (j := 0) hb2 rfl
                have c1 := cell_at (j := 1) hb2 rfl
                have c2 := cell_at (j := 2) hb2 rfl
                have c3 := cell_at (j := 3) hb2 rfl
                have f0 := frozen_at (j := 0) hb2
                have f1 := frozen_at (j := 1) hb2
                have f2 := frozen_at (j := 2) hb2
                have f3 := frozen_at (j := 3) hb2
                have HSB := Lib.hid (store_br (⟨3, -1, k, ⟨#[]⟩⟩ : Br) rfl hb2 (HM0.out.trans HM3.out) (by omega))
                clear hb2
                go_wp2_with fail
                have hc := HSB.out.2
                have q0 := cell_at (j := 0) hc rfl
                have q1 := cell_at (j := 1) hc rfl
                have q2 := cell_at (j := 2) hc rfl
                have q3 := cell_at (j := 3) hc rfl
                have hmm := HSB.out.1
                clear hc HSB c0 c1 c2 c3 f0 f1 f2 f3
                refine bodyPost_ret (v := .tuple #[.agg #[.int .i64 (3), .int .i64 (-1), .int .i64 (k), .string (⟨#[]⟩)], .bool false]) ?_ rfl ⟨by rw [HFF.out]; rfl, hmm⟩
                simp [results, Tryd.results25, go_sem, q0, q1, q2, q3]
        · by_cases h4 : tk = 4
          · subst h4
            rcases bare_cases ls with ⟨hb, hl0⟩ | ⟨hb, hl0⟩
            · have en : ((ls.length : Int) == 0) = false := beq_eq_false_iff_ne.2 (by omega)
              have h0 : headF ns (bare ls) ⟨4, tx⟩ = br0 := headF_ok0 (by simp) (fun h => by omega) (fun _ _ => hb)
              clear h2 hv hb hl0
              have HN := Lib.hid (HF.out.trans (firstL_skip (f := headF ns (bare ls)) (lit := -1) (k := k) (ts := hts.drop (k + 1)) (h0)))
              go_wp2_with fail
              go_roundw
              case rel => exact ⟨k + 1, by go_num, hlt, HN, HMA⟩
              case measure => simp [intOf]; omega
            · have en : ((ls.length : Int) == 0) = true := beq_iff_eq.2 (by omega)
              have HBB := Lib.hid hb
              clear h2 hv hb hl0
              have HFF : Hid (fin = ⟨3, -1, k, emptyB⟩) := Lib.hid (by rw [HSF.out, HF.out, HBB.out, firstL_hit (by rw [headF_three (.inl rfl)]; simp), headF_three (.inl rfl)]; exact goB_hit (by simp) _ _)
              have hb2 := HMA.out.at HB2.out id
              have c0 := cell_at (j := 0) hb2 rfl
              have c1 := cell_at (j := 1) hb2 rfl
              have c2 := cell_at (j := 2) hb2 rfl
              have c3 := cell_at (j := 3) hb2 rfl
              have f0 := frozen_at (j := 0) hb2
              have f1 := frozen_at (j := 1) hb2
              have f2 := frozen_at (j := 2) hb2
              have f3 := frozen_at (j := 3) hb2
              have HSB := Lib.hid (store_br (⟨3, -1, k, ⟨#[]⟩⟩ : Br) rfl hb2 (HM0.out.trans HMA.out) (by omega))
              clear hb2
              go_wp2_with fail
              have hc := HSB.out.2
              have q0 := cell_at (j := 0) hc rfl
              have q1 := cell_at (j := 1) hc rfl
              have q2 := cell_at (j := 2) hc rfl
              have q3 := cell_at (j := 3) hc rfl
              have hmm := HSB.out.1
              clear hc HSB c0 c1 c2 c3 f0 f1 f2 f3
              refine bodyPost_ret (v := .tuple #[.agg #[.int .i64 (3), .int .i64 (-1), .int .i64 (k), .string (⟨#[]⟩)], .bool false]) ?_ rfl ⟨by rw [HFF.out]; rfl, hmm⟩
              simp [results, Tryd.results25, go_sem, q0, q1, q2, q3]
          · have h0 : headF ns (bare ls) ⟨tk, tx⟩ = br0 := headF_ok0 h2 (fun h => absurd h hv) (fun h h' => by omega)
            have b1 : (tk == 1) = false := by simp; omega
            have b2 : (tk == 2) = false := by simp; omega
            have hcase : tk ≤ 3 ∨ 8 ≤ tk := by omega
            rcases hcase with hc | hc
            · have g5 : decide ((5 : Int) ≤ tk) = false := decide_eq_false (by omega)
              have g4 : decide ((4 : Int) ≤ tk) = false := decide_eq_false (by omega)
              clear h2 hv h4 hc
              have HN := Lib.hid (HF.out.trans (firstL_skip (f := headF ns (bare ls)) (lit := -1) (k := k) (ts := hts.drop (k + 1)) (h0)))
              go_wp2_with fail
              go_roundw
              case rel => exact ⟨k + 1, by go_num, hlt, HN, HMA⟩
              case measure => simp [intOf]; omega
            · have g5 : decide ((5 : Int) ≤ tk) = true := decide_eq_true (by omega)
              have g4 : decide ((4 : Int) ≤ tk) = true := decide_eq_true (by omega)
              have g7 : decide (tk ≤ (7 : Int)) = false := decide_eq_false (by omega)
              clear h2 hv h4 hc
              have HN := Lib.hid (HF.out.trans (firstL_skip (f := headF ns (bare ls)) (lit := -1) (k := k) (ts := hts.drop (k + 1)) (h0)))
              go_wp2_with fail
              go_roundw
              case rel => exact ⟨k + 1, by go_num, hlt, HN, HMA⟩
              case measure => simp [intOf]; omega
    · obtain rfl : k = hts.length := by omega
      have hff := hF.out
      rw [List.drop_length, firstL] at hff
      have hsf := HSF.out
      rw [hff] at hsf
      have HS0 := Lib.hid hsf
      clear hff hsf HRT hbb
      go_wp2_with fail
      clear d0 d1 d2
      obtain ⟨wo, rfl⟩ : ∃ wo, wo = wr := ⟨_, rfl⟩
      go_loopw [6] (fun iv wr => ∃ i : Nat, iv = .int .i64 i ∧ i ≤ ls.length ∧ Hid (fin = goB ns br0 i (ls.drop i)) ∧ Hid (Mod (fun _ => False) w0 wr)) (fun iv _ => ls.length - (intOf iv).toNat)
      case atStart => exact ⟨0, rfl, Nat.zero_le _, HS0, hM⟩
      case round =>
        obtain ⟨i, rfl, hi, hF2, hM2⟩ := hrel
        have hbb := hM2.out.at HB1.out id
        have d0 := cell_at (j := 0) hbb rfl
        have d1 := cell_at (j := 1) hbb rfl
        have d2 := cell_at (j := 2) hbb rfl
        by_cases hlt : i < ls.length
        · obtain ⟨sk1, hx1, hmem1⟩ := xs_get HX.out hlt
          have hr0 := HR.out.mod (HM0.out.trans hM2.out) (fun _ _ => id)
          have HRW := Lib.hid (fun (v : World) (m : Mod (fun _ => False) wr v) => rd_cell8 (hr0.mod m (fun _ _ => id)) hx1)
          obtain ⟨b1, o1, hbo, x0, x1, x2, x3, x4, x5, x6, x7⟩ := HRW.out wr (Mod.refl _ _)
          have htn := HN2.out _ (List.getElem_mem hlt)
          obtain ⟨sl, slc, hsk, hrt⟩ := HXT.out _ hmem1
          simp only at hsk
          subst hsk
          have HRT := Lib.hid hrt
          have hd : ls.drop i = ls[i] :: ls.drop (i + 1) := List.drop_eq_getElem_cons hlt
          have hff := hF2.out
          rw [hd, goB_step] at hff
          have HF := Lib.hid hff
          clear hx1 hmem1 hrt hr0 hd hff x1 x3
          generalize ls[i] = t at *
          obtain ⟨lk, ⟨lp, lts⟩, lo, ⟨ll1, ll2⟩, ⟨lr1, lr2⟩⟩ := t
          simp only at *
          subst hbo
          by_cases h2 : lk = 2
          · subst h2
            have hlb : litB ns i ⟨2, ⟨lp, lts⟩, lo, ⟨ll1, ll2⟩, ⟨lr1, lr2⟩⟩ = firstL (negF ns) i 0 lts := by unfold litB; rw [if_pos rfl]
            have hff := HF.out
            rw [hlb] at hff
            have HF := Lib.hid hff
            clear hlb hff x4 x5 x6 x7
            go_wp2_with fail
            obtain ⟨wi, rfl⟩ : ∃ wi, wi = wr := ⟨_, rfl⟩
            clear d0 d1 d2 x0 x2 hbb
            go_loopw [8] (fun iv wr => ∃ k : Nat, iv = .int .i64 k ∧ k ≤ lts.length ∧ Hid (fin = goB ns (firstL (negF ns) i k ((lts).drop k)) (i + 1) (ls.drop (i + 1))) ∧ Hid (Mod (fun _ => False) w0 wr) ∧ Hid (Mod (fun _ => False) wi wr)) (fun iv _ => lts.length - (intOf iv).toNat)
            case atStart => exact ⟨0, rfl, Nat.zero_le _, HF, hM2, Lib.hid (Mod.refl _ _)⟩
            case round =>
              obtain ⟨k, rfl, hk, hF3, hM3, hM4⟩ := hrel
              have hbb := hM3.out.at HB1.out id
              have d0 := cell_at (j := 0) hbb rfl
              have d1 := cell_at (j := 1) hbb rfl
              have d2 := cell_at (j := 2) hbb rfl
              clear hbb
              obtain ⟨b', o', hbo, x0, x1, x2, x3, x4, x5, x6, x7⟩ := HRW.out _ (hM4.out)
              cases hbo
              clear x1 x2 x3 x4 x5 x6 x7
              by_cases hlk : k < lts.length
              · obtain ⟨b2, o2, hbo2, t0, t1⟩ := rd_cell2 (HRT.out.mod (HM0.out.trans hM3.out) (fun _ _ => id)) hlk
                cases hbo2
                have hd : (lts).drop k = (lts)[k] :: (lts).drop (k + 1) := List.drop_eq_getElem_cons hlk
                have hff := hF3.out
                rw [hd] at hff
                have HF3 := Lib.hid hff
                clear hd hff hF3
                generalize (lts)[k] = t at *
                obtain ⟨tk, tx⟩ := t
                simp only at t0 t1
                by_cases k1 : tk = 1
                · subst k1
                  cases hh : hasS ns tx
                  · have HFF : Hid (fin = ⟨2, i, k, tx⟩) := Lib.hid (by rw [HF3.out, firstL_hit (by rw [negF_hit hh]; simp), negF_hit hh]; exact goB_hit (by simp) _ _)
                    have HSC := Lib.hid (HST.out tx wr.drew (HM0.out.trans hM3.out.drew))
                    rw [hh] at HSC
                    go_wp2_with fail
                    refine wp_region_ord (fun W => W.cell? ⟨b2, o2 + k * 2, none⟩ = some (.int .i64 1) ∧ W.cell? ⟨b2, o2 + k * 2 + 1, none⟩ = some (.string tx) ∧ W.cell? ⟨w.heap.size, 0, none⟩ = some (.string pr) ∧ W.cell? ⟨w.heap.size, 1, none⟩ = some (.slice sa hts.length sc) ∧ W.cell? ⟨w.heap.size, 2, none⟩ = some (.slice (some ⟨b1, o1, none⟩) ls.length bc)) [(0, 0), (0, 1), (0, 2), (0, 3), (1, 4), (0, 5), (0, 6), (1, 7), (0, 8), (0, 9), (0, 10), (0, 11), (1, 12), (3, 13), (0, 14), (0, 15)] (by kernel_rfl) (by kernel_rfl) ?_
                    go_wp2_with (first
                      | (refine ord_pure rfl rfl rfl (fun K hK => ?_); go_big_quiet_op; refine hK _ ?_; clear hK K)
                        | (refine ord_skip rfl rfl ?_; simp only [Act.put, List.setIfInBounds_toArray, List.set_cons_zero, List.set_cons_succ])
                        | (refine ord_held rfl rfl rfl (⟨by first | exact t0 | simpa using t0, by first | exact t1 | simpa using t1, by first | exact d0 | simpa using d0, by first | exact d1 | simpa using d1, by first | exact d2 | simpa using d2⟩) (fun K hK => ?_); apply Exists.intro; refine ⟨fun w' hs => ?_, hK _ ?_⟩; (revert hs; dsimp only; (try simp only [and_imp]); intros; go_simp; rfl); clear hK K)
                        | (refine ord_keep rfl rfl (⟨by first | exact t0 | simpa using t0, by first | exact t1 | simpa using t1, by first | exact d0 | simpa using d0, by first | exact d1 | simpa using d1, by first | exact d2 | simpa using d2⟩) (fun K hK => ?_))
                        | (refine ord_drop rfl rfl (fun K hK => ?_))
                        | (refine ord_nil ?_))
                    refine HSC.out.mono ?_
                    rintro e w3 ⟨rfl, hM5⟩
                    have hM6 := hM3.out.drew.trans hM5
                    have t1' := (show Mod (fun _ => False) wr w3 from (Mod.refl _ wr).drew.trans hM5).cell t1 id
                    have hb2 := hM6.at HB2.out id
                    have c0 := cell_at (j := 0) hb2 rfl
                    have c1 := cell_at (j := 1) hb2 rfl
                    have c2 := cell_at (j := 2) hb2 rfl
                    have c3 := cell_at (j := 3) hb2 rfl
                    have f0 := frozen_at (j := 0) hb2
                    have f1 := frozen_at (j := 1) hb2
                    have f2 := frozen_at (j := 2) hb2
                    have f3 := frozen_at (j := 3) hb2
                    have HSB := Lib.hid (store_br (⟨2, i, k, tx⟩ : Br) rfl hb2 (HM0.out.trans hM6) (by omega))
                    clear hb2
                    go_wp2_with (first
                      | (refine ord_pure rfl rfl rfl (fun K hK => ?_); go_big_quiet_op; refine hK _ ?_; clear hK K)
                        | (refine ord_skip rfl rfl ?_; simp only [Act.put, List.setIfInBounds_toArray, List.set_cons_zero, List.set_cons_succ])
                        | (refine ord_held rfl rfl rfl (⟨by first | exact t0 | simpa using t0, by first | exact t1 | simpa using t1, by first | exact d0 | simpa using d0, by first | exact d1 | simpa using d1, by first | exact d2 | simpa using d2⟩) (fun K hK => ?_); apply Exists.intro; refine ⟨fun w' hs => ?_, hK _ ?_⟩; (revert hs; dsimp only; (try simp only [and_imp]); intros; go_simp; rfl); clear hK K)
                        | (refine ord_keep rfl rfl (⟨by first | exact t0 | simpa using t0, by first | exact t1 | simpa using t1, by first | exact d0 | simpa using d0, by first | exact d1 | simpa using d1, by first | exact d2 | simpa using d2⟩) (fun K hK => ?_))
                        | (refine ord_drop rfl rfl (fun K hK => ?_))
                        | (refine ord_nil ?_))
                    have hc := HSB.out.2
                    have q0 := cell_at (j := 0) hc rfl
                    have q1 := cell_at (j := 1) hc rfl
                    have q2 := cell_at (j := 2) hc rfl
                    have q3 := cell_at (j := 3) hc rfl
                    have hmm := HSB.out.1
                    clear hc HSB c0 c1 c2 c3 f0 f1 f2 f3
                    refine bodyPost_ret (v := .tuple #[.agg #[.int .i64 (2), .int .i64 (i), .int .i64 (k), .string (tx)], .bool false]) ?_ rfl ⟨by rw [HFF.out]; rfl, hmm⟩
                    simp [results, Tryd.results25, go_sem, q0, q1, q2, q3]
                  · have HN := Lib.hid (HF3.out.trans (by rw [firstL_skip (negF_has hh)]))
                    have HSC := Lib.hid (HST.out tx wr.drew (HM0.out.trans hM3.out.drew))
                    rw [hh] at HSC
                    go_wp2_with fail
                    refine wp_region_ord (fun W => W.cell? ⟨b2, o2 + k * 2, none⟩ = some (.int .i64 1) ∧ W.cell? ⟨b2, o2 + k * 2 + 1, none⟩ = some (.string tx) ∧ W.cell? ⟨w.heap.size, 0, none⟩ = some (.string pr) ∧ W.cell? ⟨w.heap.size, 1, none⟩ = some (.slice sa hts.length sc) ∧ W.cell? ⟨w.heap.size, 2, none⟩ = some (.slice (some ⟨b1, o1, none⟩) ls.length bc)) [(0, 0), (0, 1), (0, 2), (0, 3), (1, 4), (0, 5), (0, 6), (1, 7), (0, 8), (0, 9), (0, 10), (0, 11), (1, 12), (3, 13), (0, 14), (0, 15)] (by kernel_rfl) (by kernel_rfl) ?_
                    go_wp2_with (first
                      | (refine ord_pure rfl rfl rfl (fun K hK => ?_); go_big_quiet_op; refine hK _ ?_; clear hK K)
                        | (refine ord_skip rfl rfl ?_; simp only [Act.put, List.setIfInBounds_toArray, List.set_cons_zero, List.set_cons_succ])
                        | (refine ord_held rfl rfl rfl (⟨by first | exact t0 | simpa using t0, by first | exact t1 | simpa using t1, by first | exact d0 | simpa using d0, by first | exact d1 | simpa using d1, by first | exact d2 | simpa using d2⟩) (fun K hK => ?_); apply Exists.intro; refine ⟨fun w' hs => ?_, hK _ ?_⟩; (revert hs; dsimp only; (try simp only [and_imp]); intros; go_simp; rfl); clear hK K)
                        | (refine ord_keep rfl rfl (⟨by first | exact t0 | simpa using t0, by first | exact t1 | simpa using t1, by first | exact d0 | simpa using d0, by first | exact d1 | simpa using d1, by first | exact d2 | simpa using d2⟩) (fun K hK => ?_))
                        | (refine ord_drop rfl rfl (fun K hK => ?_))
                        | (refine ord_nil ?_))
                    refine HSC.out.mono ?_
                    rintro e w3 ⟨rfl, hM5⟩
                    have HM6 := Lib.hid (hM3.out.drew.trans hM5)
                    have HM7 := Lib.hid (hM4.out.drew.trans hM5)
                    clear hM5
                    go_wp2_with (first
                      | (refine ord_pure rfl rfl rfl (fun K hK => ?_); go_big_quiet_op; refine hK _ ?_; clear hK K)
                        | (refine ord_skip rfl rfl ?_; simp only [Act.put, List.setIfInBounds_toArray, List.set_cons_zero, List.set_cons_succ])
                        | (refine ord_held rfl rfl rfl (⟨by first | exact t0 | simpa using t0, by first | exact t1 | simpa using t1, by first | exact d0 | simpa using d0, by first | exact d1 | simpa using d1, by first | exact d2 | simpa using d2⟩) (fun K hK => ?_); apply Exists.intro; refine ⟨fun w' hs => ?_, hK _ ?_⟩; (revert hs; dsimp only; (try simp only [and_imp]); intros; go_simp; rfl); clear hK K)
                        | (refine ord_keep rfl rfl (⟨by first | exact t0 | simpa using t0, by first | exact t1 | simpa using t1, by first | exact d0 | simpa using d0, by first | exact d1 | simpa using d1, by first | exact d2 | simpa using d2⟩) (fun K hK => ?_))
                        | (refine ord_drop rfl rfl (fun K hK => ?_))
                        | (refine ord_nil ?_))
                    go_roundw
                    case rel => exact ⟨k + 1, by go_num, hlk, HN, HM6, HM7⟩
                    case measure => simp [intOf]; omega
                · by_cases k2 : tk = 2
                  · subst k2
                    have h0 : negF ns ⟨2, tx⟩ = br0 := negF_no (by simp) trivial
                    clear k1
                    have HN := Lib.hid (HF3.out.trans (by rw [firstL_skip (h0)]))
                    go_wp2_with fail
                    refine wp_region_ord (fun W => W.cell? ⟨b2, o2 + k * 2, none⟩ = some (.int .i64 2) ∧ W.cell? ⟨b2, o2 + k * 2 + 1, none⟩ = some (.string tx) ∧ W.cell? ⟨w.heap.size, 0, none⟩ = some (.string pr) ∧ W.cell? ⟨w.heap.size, 1, none⟩ = some (.slice sa hts.length sc) ∧ W.cell? ⟨w.heap.size, 2, none⟩ = some (.slice (some ⟨b1, o1, none⟩) ls.length bc)) [(0, 0), (0, 1), (0, 2), (0, 3), (1, 4), (0, 5), (0, 6), (1, 7), (0, 8), (0, 9), (0, 10), (0, 11), (1, 12), (3, 13), (0, 14), (0, 15)] (by kernel_rfl) (by kernel_rfl) ?_
                    go_wp2_with (first
                      | (refine ord_pure rfl rfl rfl (fun K hK => ?_); go_big_quiet_op; refine hK _ ?_; clear hK K)
                        | (refine ord_skip rfl rfl ?_; simp only [Act.put, List.setIfInBounds_toArray, List.set_cons_zero, List.set_cons_succ])
                        | (refine ord_held rfl rfl rfl (⟨by first | exact t0 | simpa using t0, by first | exact t1 | simpa using t1, by first | exact d0 | simpa using d0, by first | exact d1 | simpa using d1, by first | exact d2 | simpa using d2⟩) (fun K hK => ?_); apply Exists.intro; refine ⟨fun w' hs => ?_, hK _ ?_⟩; (revert hs; dsimp only; (try simp only [and_imp]); intros; go_simp; rfl); clear hK K)
                        | (refine ord_keep rfl rfl (⟨by first | exact t0 | simpa using t0, by first | exact t1 | simpa using t1, by first | exact d0 | simpa using d0, by first | exact d1 | simpa using d1, by first | exact d2 | simpa using d2⟩) (fun K hK => ?_))
                        | (refine ord_drop rfl rfl (fun K hK => ?_))
                        | (refine ord_nil ?_))
                    go_roundw
                    case rel => exact ⟨k + 1, by go_num, hlk, HN, Lib.hid hM3.out.drew, Lib.hid hM4.out.drew⟩
                    case measure => simp [intOf]; omega
                  · have q1 : (tk == 1) = false := by simpa using k1
                    have q2 : (tk == 2) = false := by simpa using k2
                    have h0 : negF ns ⟨tk, tx⟩ = br0 := negF_no k1 k2
                    clear k1 k2
                    have HN := Lib.hid (HF3.out.trans (by rw [firstL_skip (h0)]))
                    go_wp2_with fail
                    refine wp_region_ord (fun W => W.cell? ⟨b2, o2 + k * 2, none⟩ = some (.int .i64 tk) ∧ W.cell? ⟨b2, o2 + k * 2 + 1, none⟩ = some (.string tx) ∧ W.cell? ⟨w.heap.size, 0, none⟩ = some (.string pr) ∧ W.cell? ⟨w.heap.size, 1, none⟩ = some (.slice sa hts.length sc) ∧ W.cell? ⟨w.heap.size, 2, none⟩ = some (.slice (some ⟨b1, o1, none⟩) ls.length bc)) [(0, 0), (0, 1), (0, 2), (0, 3), (1, 4), (0, 5), (0, 6), (1, 7), (0, 8), (0, 9), (0, 10), (0, 11), (1, 12), (3, 13), (0, 14), (0, 15)] (by kernel_rfl) (by kernel_rfl) ?_
                    go_wp2_with (first
                      | (refine ord_pure rfl rfl rfl (fun K hK => ?_); go_big_quiet_op; refine hK _ ?_; clear hK K)
                        | (refine ord_skip rfl rfl ?_; simp only [Act.put, List.setIfInBounds_toArray, List.set_cons_zero, List.set_cons_succ])
                        | (refine ord_held rfl rfl rfl (⟨by first | exact t0 | simpa using t0, by first | exact t1 | simpa using t1, by first | exact d0 | simpa using d0, by first | exact d1 | simpa using d1, by first | exact d2 | simpa using d2⟩) (fun K hK => ?_); apply Exists.intro; refine ⟨fun w' hs => ?_, hK _ ?_⟩; (revert hs; dsimp only; (try simp only [and_imp]); intros; go_simp; rfl); clear hK K)
                        | (refine ord_keep rfl rfl (⟨by first | exact t0 | simpa using t0, by first | exact t1 | simpa using t1, by first | exact d0 | simpa using d0, by first | exact d1 | simpa using d1, by first | exact d2 | simpa using d2⟩) (fun K hK => ?_))
                        | (refine ord_drop rfl rfl (fun K hK => ?_))
                        | (refine ord_nil ?_))
                    go_roundw
                    case rel => exact ⟨k + 1, by go_num, hlk, HN, Lib.hid hM3.out.drew, Lib.hid hM4.out.drew⟩
                    case measure => simp [intOf]; omega
              · obtain rfl : k = lts.length := by omega
                have hff := hF3.out
                rw [List.drop_eq_nil_of_le (by simp), firstL] at hff
                have HF3 := Lib.hid hff
                clear hff hF3
                go_wp2_with fail
                go_roundw
                case rel => exact ⟨i + 1, by go_num, hlt, HF3, hM3⟩
                case measure => simp [intOf]; omega
          · by_cases h3 : lk = 3
            · subst h3
              have hlb : litB ns i ⟨3, ⟨lp, lts⟩, lo, ⟨ll1, ll2⟩, ⟨lr1, lr2⟩⟩ = firstL (cmpF ns) i 0 [⟨ll1, ll2⟩, ⟨lr1, lr2⟩] := by unfold litB; rw [if_neg (by simp), if_pos rfl]
              have hff := HF.out
              rw [hlb] at hff
              have HF := Lib.hid hff
              clear hlb hff h2
              obtain ⟨wj, rfl⟩ : ∃ wj, wj = wr := ⟨_, rfl⟩
              have hma : Mod (fun _ => False) wj (wj.alloc (.cells #[.int .i64 ll1, .string ll2, .int .i64 lr1, .string lr2] 72)).drew := ((Mod.refl _ wj).alloc _).drew
              have hra : Rd (wj.alloc (.cells #[.int .i64 ll1, .string ll2, .int .i64 lr1, .string lr2] 72)).drew (some ⟨wj.heap.size, 0, none⟩) (tmsC [⟨ll1, ll2⟩, ⟨lr1, lr2⟩]) := Rd.drew (Rd.news wj [.int .i64 ll1, .string ll2, .int .i64 lr1, .string lr2] _)
              have d9 := hma.cell d2 id
              have x9 := hma.cell x0 id
              have HRA := Lib.hid hra; have HMA := Lib.hid hma; have HM8 := Lib.hid (hM2.out.trans hma)
              clear hra hma
              go_wp2_with fail
              refine wp_region_ord (fun W => W.cell? ⟨w.heap.size, 2, none⟩ = some (.slice (some ⟨b1, o1, none⟩) ls.length bc) ∧ W.cell? ⟨b1, o1 + i * 8 + 4, none⟩ = some (.int .i64 ll1) ∧ W.cell? ⟨b1, o1 + i * 8 + 5, none⟩ = some (.string ll2) ∧ W.cell? ⟨b1, o1 + i * 8 + 6, none⟩ = some (.int .i64 lr1) ∧ W.cell? ⟨b1, o1 + i * 8 + 7, none⟩ = some (.string lr2)) [(0, 0), (1, 1), (0, 2), (0, 3), (0, 4), (1, 5), (0, 6), (1, 7), (0, 8), (0, 9), (0, 10), (1, 11), (3, 12), (0, 13)] (by kernel_rfl) (by kernel_rfl) ?_
              go_wp2_with (first
                | (refine ord_pure rfl rfl rfl (fun K hK => ?_); go_big_quiet_op; refine hK _ ?_; clear hK K)
                        | (refine ord_skip rfl rfl ?_; simp only [Act.put, List.setIfInBounds_toArray, List.set_cons_zero, List.set_cons_succ])
                        | (refine ord_held rfl rfl rfl (⟨by first | exact d2 | simpa using d2, by first | exact x4 | simpa using x4, by first | exact x5 | simpa using x5, by first | exact x6 | simpa using x6, by first | exact x7 | simpa using x7⟩) (fun K hK => ?_); apply Exists.intro; refine ⟨fun w' hs => ?_, hK _ ?_⟩; (revert hs; dsimp only; (try simp only [and_imp]); intros; go_simp; rfl); clear hK K)
                        | (refine ord_keep rfl rfl (⟨by first | exact d2 | simpa using d2, by first | exact x4 | simpa using x4, by first | exact x5 | simpa using x5, by first | exact x6 | simpa using x6, by first | exact x7 | simpa using x7⟩) (fun K hK => ?_))
                        | (refine ord_drop rfl rfl (fun K hK => ?_))
                        | (refine ord_nil ?_))
              clear x4 x5 x6 x7 d0 d1 d2 x2 x0 d9 x9 hbb
              obtain ⟨wi, hwi⟩ : ∃ v, v = (wj.alloc (.cells #[.int .i64 ll1, .string ll2, .int .i64 lr1, .string lr2] 72)).drew := ⟨_, rfl⟩
              rw [← hwi] at HRA HMA HM8 ⊢
              clear hwi
              obtain ⟨ad, had⟩ : ∃ a, a = (some ⟨wj.heap.size, 0, none⟩ : Option Addr) := ⟨_, rfl⟩
              rw [← had] at HRA ⊢
              clear had
              go_loopw [8] (fun iv wr => ∃ k : Nat, iv = .int .i64 k ∧ k ≤ 2 ∧ Hid (fin = goB ns (firstL (cmpF ns) i k ((([⟨ll1, ll2⟩, ⟨lr1, lr2⟩] : List Tm)).drop k)) (i + 1) (ls.drop (i + 1))) ∧ Hid (Mod (fun _ => False) w0 wr) ∧ Hid (Mod (fun _ => False) wi wr)) (fun iv _ => 2 - (intOf iv).toNat)
              case atStart => exact ⟨0, rfl, Nat.zero_le _, HF, HM8, Lib.hid (Mod.refl _ _)⟩
              case round =>
                obtain ⟨k, rfl, hk, hF3, hM3, hM4⟩ := hrel
                have hbb := hM3.out.at HB1.out id
                have d0 := cell_at (j := 0) hbb rfl
                have d1 := cell_at (j := 1) hbb rfl
                have d2 := cell_at (j := 2) hbb rfl
                clear hbb
                obtain ⟨b', o', hbo, x0, x1, x2, x3, x4, x5, x6, x7⟩ := HRW.out _ (HMA.out.trans hM4.out)
                cases hbo
                clear x1 x2 x3 x4 x5 x6 x7
                by_cases hlk : k < 2
                · obtain ⟨b2, o2, hbo2, t0, t1⟩ := rd_cell2 (HRA.out.mod hM4.out (fun _ _ => id)) hlk
                  cases hbo2
                  have hd : (([⟨ll1, ll2⟩, ⟨lr1, lr2⟩] : List Tm)).drop k = (([⟨ll1, ll2⟩, ⟨lr1, lr2⟩] : List Tm))[k] :: (([⟨ll1, ll2⟩, ⟨lr1, lr2⟩] : List Tm)).drop (k + 1) := List.drop_eq_getElem_cons hlk
                  have hff := hF3.out
                  rw [hd] at hff
                  have HF3 := Lib.hid hff
                  clear hd hff hF3
                  generalize (([⟨ll1, ll2⟩, ⟨lr1, lr2⟩] : List Tm))[k] = t at *
                  obtain ⟨tk, tx⟩ := t
                  simp only at t0 t1
                  by_cases k1 : tk = 1
                  · subst k1
                    cases hh : hasS ns tx
                    · have HFF : Hid (fin = ⟨2, i, k, tx⟩) := Lib.hid (by rw [HF3.out, firstL_hit (by rw [cmpF_hit hh]; simp), cmpF_hit hh]; exact goB_hit (by simp) _ _)
                      have HSC := Lib.hid (HST.out tx wr.drew (HM0.out.trans hM3.out.drew))
                      rw [hh] at HSC
                      go_wp2_with fail
                      refine wp_region_ord (fun W => W.cell? ⟨b2, o2 + k * 2, none⟩ = some (.int .i64 1) ∧ W.cell? ⟨b2, o2 + k * 2 + 1, none⟩ = some (.string tx) ∧ W.cell? ⟨w.heap.size, 0, none⟩ = some (.string pr) ∧ W.cell? ⟨w.heap.size, 1, none⟩ = some (.slice sa hts.length sc) ∧ W.cell? ⟨w.heap.size, 2, none⟩ = some (.slice (some ⟨b1, o1, none⟩) ls.length bc)) [(0, 0), (0, 1), (0, 2), (0, 3), (1, 4), (0, 5), (0, 6), (1, 7), (0, 8), (0, 9), (0, 10), (0, 11), (1, 12), (3, 13), (0, 14), (0, 15)] (by kernel_rfl) (by kernel_rfl) ?_
                      go_wp2_with (first
                        | (refine ord_pure rfl rfl rfl (fun K hK => ?_); go_big_quiet_op; refine hK _ ?_; clear hK K)
                        | (refine ord_skip rfl rfl ?_; simp only [Act.put, List.setIfInBounds_toArray, List.set_cons_zero, List.set_cons_succ])
                        | (refine ord_held rfl rfl rfl (⟨by first | exact t0 | simpa using t0, by first | exact t1 | simpa using t1, by first | exact d0 | simpa using d0, by first | exact d1 | simpa using d1, by first | exact d2 | simpa using d2⟩) (fun K hK => ?_); apply Exists.intro; refine ⟨fun w' hs => ?_, hK _ ?_⟩; (revert hs; dsimp only; (try simp only [and_imp]); intros; go_simp; rfl); clear hK K)
                        | (refine ord_keep rfl rfl (⟨by first | exact t0 | simpa using t0, by first | exact t1 | simpa using t1, by first | exact d0 | simpa using d0, by first | exact d1 | simpa using d1, by first | exact d2 | simpa using d2⟩) (fun K hK => ?_))
                        | (refine ord_drop rfl rfl (fun K hK => ?_))
                        | (refine ord_nil ?_))
                      refine HSC.out.mono ?_
                      rintro e w3 ⟨rfl, hM5⟩
                      have hM6 := hM3.out.drew.trans hM5
                      have t1' := (show Mod (fun _ => False) wr w3 from (Mod.refl _ wr).drew.trans hM5).cell t1 id
                      have hb2 := hM6.at HB2.out id
                      have c0 := cell_at (j := 0) hb2 rfl
                      have c1 := cell_at (j := 1) hb2 rfl
                      have c2 := cell_at (j := 2) hb2 rfl
                      have c3 := cell_at (j := 3) hb2 rfl
                      have f0 := frozen_at (j := 0) hb2
                      have f1 := frozen_at (j := 1) hb2
                      have f2 := frozen_at (j := 2) hb2
                      have f3 := frozen_at (j := 3) hb2
                      have HSB := Lib.hid (store_br (⟨2, i, k, tx⟩ : Br) rfl hb2 (HM0.out.trans hM6) (by omega))
                      clear hb2
                      go_wp2_with (first
                        | (refine ord_pure rfl rfl rfl (fun K hK => ?_); go_big_quiet_op; refine hK _ ?_; clear hK K)
                        | (refine ord_skip rfl rfl ?_; simp only [Act.put, List.setIfInBounds_toArray, List.set_cons_zero, List.set_cons_succ])
                        | (refine ord_held rfl rfl rfl (⟨by first | exact t0 | simpa using t0, by first | exact t1 | simpa using t1, by first | exact d0 | simpa using d0, by first | exact d1 | simpa using d1, by first | exact d2 | simpa using d2⟩) (fun K hK => ?_); apply Exists.intro; refine ⟨fun w' hs => ?_, hK _ ?_⟩; (revert hs; dsimp only; (try simp only [and_imp]); intros; go_simp; rfl); clear hK K)
                        | (refine ord_keep rfl rfl (⟨by first | exact t0 | simpa using t0, by first | exact t1 | simpa using t1, by first | exact d0 | simpa using d0, by first | exact d1 | simpa using d1, by first | exact d2 | simpa using d2⟩) (fun K hK => ?_))
                        | (refine ord_drop rfl rfl (fun K hK => ?_))
                        | (refine ord_nil ?_))
                      have hc := HSB.out.2
                      have q0 := cell_at (j := 0) hc rfl
                      have q1 := cell_at (j := 1) hc rfl
                      have q2 := cell_at (j := 2) hc rfl
                      have q3 := cell_at (j := 3) hc rfl
                      have hmm := HSB.out.1
                      clear hc HSB c0 c1 c2 c3 f0 f1 f2 f3
                      refine bodyPost_ret (v := .tuple #[.agg #[.int .i64 (2), .int .i64 (i), .int .i64 (k), .string (tx)], .bool false]) ?_ rfl ⟨by rw [HFF.out]; rfl, hmm⟩
                      simp [results, Tryd.results25, go_sem, q0, q1, q2, q3]
                    · have HN := Lib.hid (HF3.out.trans (by rw [firstL_skip (cmpF_has hh)]))
                      have HSC := Lib.hid (HST.out tx wr.drew (HM0.out.trans hM3.out.drew))
                      rw [hh] at HSC
                      go_wp2_with fail
                      refine wp_region_ord (fun W => W.cell? ⟨b2, o2 + k * 2, none⟩ = some (.int .i64 1) ∧ W.cell? ⟨b2, o2 + k * 2 + 1, none⟩ = some (.string tx) ∧ W.cell? ⟨w.heap.size, 0, none⟩ = some (.string pr) ∧ W.cell? ⟨w.heap.size, 1, none⟩ = some (.slice sa hts.length sc) ∧ W.cell? ⟨w.heap.size, 2, none⟩ = some (.slice (some ⟨b1, o1, none⟩) ls.length bc)) [(0, 0), (0, 1), (0, 2), (0, 3), (1, 4), (0, 5), (0, 6), (1, 7), (0, 8), (0, 9), (0, 10), (0, 11), (1, 12), (3, 13), (0, 14), (0, 15)] (by kernel_rfl) (by kernel_rfl) ?_
                      go_wp2_with (first
                        | (refine ord_pure rfl rfl rfl (fun K hK => ?_); go_big_quiet_op; refine hK _ ?_; clear hK K)
                        | (refine ord_skip rfl rfl ?_; simp only [Act.put, List.setIfInBounds_toArray, List.set_cons_zero, List.set_cons_succ])
                        | (refine ord_held rfl rfl rfl (⟨by first | exact t0 | simpa using t0, by first | exact t1 | simpa using t1, by first | exact d0 | simpa using d0, by first | exact d1 | simpa using d1, by first | exact d2 | simpa using d2⟩) (fun K hK => ?_); apply Exists.intro; refine ⟨fun w' hs => ?_, hK _ ?_⟩; (revert hs; dsimp only; (try simp only [and_imp]); intros; go_simp; rfl); clear hK K)
                        | (refine ord_keep rfl rfl (⟨by first | exact t0 | simpa using t0, by first | exact t1 | simpa using t1, by first | exact d0 | simpa using d0, by first | exact d1 | simpa using d1, by first | exact d2 | simpa using d2⟩) (fun K hK => ?_))
                        | (refine ord_drop rfl rfl (fun K hK => ?_))
                        | (refine ord_nil ?_))
                      refine HSC.out.mono ?_
                      rintro e w3 ⟨rfl, hM5⟩
                      have HM6 := Lib.hid (hM3.out.drew.trans hM5)
                      have HM7 := Lib.hid (hM4.out.drew.trans hM5)
                      clear hM5
                      go_wp2_with (first
                        | (refine ord_pure rfl rfl rfl (fun K hK => ?_); go_big_quiet_op; refine hK _ ?_; clear hK K)
                        | (refine ord_skip rfl rfl ?_; simp only [Act.put, List.setIfInBounds_toArray, List.set_cons_zero, List.set_cons_succ])
                        | (refine ord_held rfl rfl rfl (⟨by first | exact t0 | simpa using t0, by first | exact t1 | simpa using t1, by first | exact d0 | simpa using d0, by first | exact d1 | simpa using d1, by first | exact d2 | simpa using d2⟩) (fun K hK => ?_); apply Exists.intro; refine ⟨fun w' hs => ?_, hK _ ?_⟩; (revert hs; dsimp only; (try simp only [and_imp]); intros; go_simp; rfl); clear hK K)
                        | (refine ord_keep rfl rfl (⟨by first | exact t0 | simpa using t0, by first | exact t1 | simpa using t1, by first | exact d0 | simpa using d0, by first | exact d1 | simpa using d1, by first | exact d2 | simpa using d2⟩) (fun K hK => ?_))
                        | (refine ord_drop rfl rfl (fun K hK => ?_))
                        | (refine ord_nil ?_))
                      go_roundw
                      case rel => exact ⟨k + 1, by go_num, hlk, HN, HM6, HM7⟩
                      case measure => simp [intOf]; omega
                  · by_cases k2 : tk = 2
                    · subst k2
                      have HFF : Hid (fin = ⟨1, i, k, emptyB⟩) := Lib.hid (by rw [HF3.out, firstL_hit (by rw [cmpF_2]; simp), cmpF_2]; exact goB_hit (by simp) _ _)
                      clear k1
                      have hb2 := hM3.out.at HB2.out id
                      have c0 := cell_at (j := 0) hb2 rfl
                      have c1 := cell_at (j := 1) hb2 rfl
                      have c2 := cell_at (j := 2) hb2 rfl
                      have c3 := cell_at (j := 3) hb2 rfl
                      have f0 := frozen_at (j := 0) hb2
                      have f1 := frozen_at (j := 1) hb2
                      have f2 := frozen_at (j := 2) hb2
                      have f3 := frozen_at (j := 3) hb2
                      have HSB := Lib.hid (store_br (⟨1, i, k, ⟨#[]⟩⟩ : Br) rfl hb2 (HM0.out.trans hM3.out) (by omega))
                      clear hb2
                      go_wp2_with fail
                      have hc := HSB.out.2
                      have q0 := cell_at (j := 0) hc rfl
                      have q1 := cell_at (j := 1) hc rfl
                      have q2 := cell_at (j := 2) hc rfl
                      have q3 := cell_at (j := 3) hc rfl
                      have hmm := HSB.out.1
                      clear hc HSB c0 c1 c2 c3 f0 f1 f2 f3
                      refine bodyPost_ret (v := .tuple #[.agg #[.int .i64 (1), .int .i64 (i), .int .i64 (k), .string (⟨#[]⟩)], .bool false]) ?_ rfl ⟨by rw [HFF.out]; rfl, hmm⟩
                      simp [results, Tryd.results25, go_sem, q0, q1, q2, q3]
                    · have q1 : (tk == 1) = false := by simpa using k1
                      have q2 : (tk == 2) = false := by simpa using k2
                      have h0 : cmpF ns ⟨tk, tx⟩ = br0 := cmpF_no k1 k2
                      clear k1 k2
                      have HN := Lib.hid (HF3.out.trans (by rw [firstL_skip (h0)]))
                      go_wp2_with fail
                      refine wp_region_ord (fun W => W.cell? ⟨b2, o2 + k * 2, none⟩ = some (.int .i64 tk) ∧ W.cell? ⟨b2, o2 + k * 2 + 1, none⟩ = some (.string tx) ∧ W.cell? ⟨w.heap.size, 0, none⟩ = some (.string pr) ∧ W.cell? ⟨w.heap.size, 1, none⟩ = some (.slice sa hts.length sc) ∧ W.cell? ⟨w.heap.size, 2, none⟩ = some (.slice (some ⟨b1, o1, none⟩) ls.length bc)) [(0, 0), (0, 1), (0, 2), (0, 3), (1, 4), (0, 5), (0, 6), (1, 7), (0, 8), (0, 9), (0, 10), (0, 11), (1, 12), (3, 13), (0, 14), (0, 15)] (by kernel_rfl) (by kernel_rfl) ?_
                      go_wp2_with (first
                        | (refine ord_pure rfl rfl rfl (fun K hK => ?_); go_big_quiet_op; refine hK _ ?_; clear hK K)
                        | (refine ord_skip rfl rfl ?_; simp only [Act.put, List.setIfInBounds_toArray, List.set_cons_zero, List.set_cons_succ])
                        | (refine ord_held rfl rfl rfl (⟨by first | exact t0 | simpa using t0, by first | exact t1 | simpa using t1, by first | exact d0 | simpa using d0, by first | exact d1 | simpa using d1, by first | exact d2 | simpa using d2⟩) (fun K hK => ?_); apply Exists.intro; refine ⟨fun w' hs => ?_, hK _ ?_⟩; (revert hs; dsimp only; (try simp only [and_imp]); intros; go_simp; rfl); clear hK K)
                        | (refine ord_keep rfl rfl (⟨by first | exact t0 | simpa using t0, by first | exact t1 | simpa using t1, by first | exact d0 | simpa using d0, by first | exact d1 | simpa using d1, by first | exact d2 | simpa using d2⟩) (fun K hK => ?_))
                        | (refine ord_drop rfl rfl (fun K hK => ?_))
                        | (refine ord_nil ?_))
                      go_roundw
                      case rel => exact ⟨k + 1, by go_num, hlk, HN, Lib.hid hM3.out.drew, Lib.hid hM4.out.drew⟩
                      case measure => simp [intOf]; omega
                · obtain rfl : k = 2 := by omega
                  have hff := hF3.out
                  rw [List.drop_eq_nil_of_le (by simp), firstL] at hff
                  have HF3 := Lib.hid hff
                  clear hff hF3
                  go_wp2_with fail
                  go_roundw
                  case rel => exact ⟨i + 1, by go_num, hlt, HF3, hM3⟩
                  case measure => simp [intOf]; omega
            · have e2 : (lk == 2) = false := by simpa using h2
              have e3 : (lk == 3) = false := by simpa using h3
              have n2 : (lk != 2) = true := by simpa using h2
              have n3 : (lk != 3) = true := by simpa using h3
              have hlb : litB ns i ⟨lk, ⟨lp, lts⟩, lo, ⟨ll1, ll2⟩, ⟨lr1, lr2⟩⟩ = br0 := by unfold litB; rw [if_neg h2, if_neg h3]
              have hff := HF.out
              rw [hlb] at hff
              have HF := Lib.hid hff
              clear hlb hff
              go_wp2_with fail
              go_roundw
              case rel => exact ⟨i + 1, by go_num, hlt, HF, hM2⟩
              case measure => simp [intOf]; omega
        · obtain rfl : i = ls.length := by omega
          have hff := hF2.out
          rw [List.drop_length, goB_end br0_ok] at hff
          have HFF := Lib.hid hff
          clear hff hbb
          have hb2 := hM2.out.at HB2.out id
          have c0 := cell_at (j := 0) hb2 rfl
          have c1 := cell_at (j := 1) hb2 rfl
          have c2 := cell_at (j := 2) hb2 rfl
          have c3 := cell_at (j := 3) hb2 rfl
          have f0 := frozen_at (j := 0) hb2
          have f1 := frozen_at (j := 1) hb2
          have f2 := frozen_at (j := 2) hb2
          have f3 := frozen_at (j := 3) hb2
          have HSB := Lib.hid (store_br (⟨0, 0, 0, ⟨#[]⟩⟩ : Br) rfl hb2 (HM0.out.trans hM2.out) (by omega))
          clear hb2
          go_wp2_with fail
          have hc := HSB.out.2
          have q0 := cell_at (j := 0) hc rfl
          have q1 := cell_at (j := 1) hc rfl
          have q2 := cell_at (j := 2) hc rfl
          have q3 := cell_at (j := 3) hc rfl
          have hmm := HSB.out.1
          clear hc HSB c0 c1 c2 c3 f0 f1 f2 f3
          refine bodyPost_ret (v := .tuple #[.agg #[.int .i64 (0), .int .i64 (0), .int .i64 (0), .string (⟨#[]⟩)], .bool true]) ?_ rfl ⟨by rw [HFF.out]; rfl, hmm⟩
          simp [results, Tryd.results25, go_sem, q0, q1, q2, q3]
end Go.Proofs.YteecbbnpgmceiaaDoor
