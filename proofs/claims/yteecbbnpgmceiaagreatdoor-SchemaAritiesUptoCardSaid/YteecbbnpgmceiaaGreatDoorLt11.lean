/-
  lentAtom, lent (11): a program in memory of its own.
-/
import Derived.Test.YteecbbnpgmceiaaGreatDoorLtG
import Derived.Test.YteecbbnpgmceiaaGreatDoorSame11
namespace Go.Proofs.YteecbbnpgmceiaaGreatDoor.L8
open Go Go.RowKit Go.Mine
set_option linter.unusedVariables false
set_option maxHeartbeats 8000000
set_option maxRecDepth 100000

theorem lentAtom11_any (p : ByteArray) (ts : List Tm) (s : Value) (w : World) (ht : TsAt w s ts) (hn : ts.length < 2 ^ 30) :
    Calls Tryz.prog 65 #[.agg #[.string p, s]] w fun e w' => ∃ g c, e = .returned (.agg #[.string p, .slice (some ⟨g, 0, none⟩) ts.length c]) ∧ OwnT w' g c ts ∧ w.heap.size ≤ g ∧ Mod (fun _ => False) w w' := by
  obtain ⟨ad, c, rfl, hr⟩ := ht
  have hm1 : Mod (fun _ => False) w ((w.alloc (.cells #[.string p, .slice ad ts.length c] 43)).alloc (.cells #[.string ⟨#[]⟩, .slice none 0 0] 43)) := ((Mod.refl _ w).alloc _).alloc _
  have HR := Lib.hid (hr.mod hm1 (fun _ _ => id))
  have HM := Lib.hid hm1
  clear hr hm1
  go_enter Tryz.func65, Tryz.ntmps65
  go_wp2_with (first
    | (at_builtin; refine wpL_append0 rfl (.tmp 8) (.tmp 10) 41 41 rfl tiT rfl rfl (Src.ofRd tiT.ht ts.length c HR.out (tmsC_length ts) (tmsC_one ts)) (by omega) (by unfold maxLen; omega) ?_; intro a2 c2 w2 hO2 hM2 hf2 _
       have HO2 := Lib.hid hO2; have HM2 := Lib.hid hM2; have HF2 := Lib.hid hf2; clear hO2 hM2 hf2)
    | (at_builtin; refine wpL_appendN (us := [.int .i64 (-71), .string ⟨#[]⟩]) rfl (.tmp 12) (.tmp 14) 41 rfl tiT rfl HO2.out rfl rfl rfl (by omega) (by unfold maxLen; omega) ?_; intro a3 c3 w3 hO3 hG3 _
       obtain ⟨g3, rfl⟩ := hO3.atHead (by omega)
       have hc3 : ts.length + 1 ≤ c3 ∧ c3 ≤ maxLen := by
         obtain ⟨_, _, _, _, h1, h2, _⟩ := hO3.2.resolve_left (by simp)
         exact ⟨h1, h2⟩
       obtain ⟨hc3, hcm⟩ := hc3
       unfold maxLen at hcm
       have hm3 := HM2.out.step hG3.mod (fun i hi hs => by have := HF2.out i hs; omega)
       have b1 := (((Mod.refl (fun _ => False) (w.alloc (.cells #[.string p, .slice ad ts.length c] 43))).alloc (.cells #[.string ⟨#[]⟩, .slice none 0 0] 43)).trans hm3).at (heap_alloc_new w _) id
       have b2 := hm3.at (heap_alloc_new (w.alloc (.cells #[.string p, .slice ad ts.length c] 43)) _) id
       rw [World.size_alloc] at b2
       have d0 := cell_at (j := 0) b1 rfl
       have d1 := cell_at (j := 1) b1 rfl
       have f1 : w3.frozen? ⟨w.heap.size, 1, none⟩ = false := frozen_at b1
       have e0 := cell_at (j := 0) b2 rfl
       have e1 := cell_at (j := 1) b2 rfl
       have k0 : w3.frozen? ⟨w.heap.size + 1, 0, none⟩ = false := frozen_at b2
       have k1 : w3.frozen? ⟨w.heap.size + 1, 1, none⟩ = false := frozen_at b2
       have hg3 : w.heap.size + 2 ≤ g3 := by
         rcases hG3.pos with e | ⟨b, e, hb⟩
         · have := HF2.out g3 e.symm; simp at this; omega
         · simp at e; have := HM2.out.size; simp at this; omega
       have B2 := Lib.hid b2
       have HO3 := Lib.hid hO3; have HM3 := Lib.hid (HM.out.trans hm3); clear hO3 hG3 hm3 b1 b2))
  have hm : Mod (fun k => k = w.heap.size ∨ k = w.heap.size + 1) w3 (((w3.setCell ⟨w.heap.size, 1, none⟩ (.slice (some ⟨g3, 0, none⟩) ts.length c3)).setCell ⟨w.heap.size + 1, 0, none⟩ (.string p)).setCell ⟨w.heap.size + 1, 1, none⟩ (.slice (some ⟨g3, 0, none⟩) ts.length c3)) :=
    (((Mod.refl _ w3).setCell (p := ⟨w.heap.size, 1, none⟩) (fun _ => .inl rfl) _).setCell (p := ⟨w.heap.size + 1, 0, none⟩) (fun _ => .inr rfl) _).setCell (p := ⟨w.heap.size + 1, 1, none⟩) (fun _ => .inr rfl) _
  have hb := heap_setCell_at (j := 1) (.slice (some ⟨g3, 0, none⟩) ts.length c3) (heap_setCell_at (j := 0) (.string p) (((Mod.refl (fun k => k = w.heap.size) w3).setCell (p := ⟨w.heap.size, 1, none⟩) (fun _ => rfl) (.slice (some ⟨g3, 0, none⟩) ts.length c3)).at B2.out (by omega)))
  have q0 := cell_at (j := 0) (u := .string p) hb rfl
  have q1 := cell_at (j := 1) (u := .slice (some ⟨g3, 0, none⟩) ts.length c3) hb rfl
  have hO : OwnT w3 g3 c3 ts := by unfold OwnT; rw [tmsC_append]; exact HO3.out
  generalize (((w3.setCell ⟨w.heap.size, 1, none⟩ (.slice (some ⟨g3, 0, none⟩) ts.length c3)).setCell ⟨w.heap.size + 1, 0, none⟩ (.string p)).setCell ⟨w.heap.size + 1, 1, none⟩ (.slice (some ⟨g3, 0, none⟩) ts.length c3)) = W at *
  exact bodyPost_ret (v := .agg #[.string p, .slice (some ⟨g3, 0, none⟩) ts.length c3]) (by simp [results, Tryz.results65, go_sem, q0, q1]) rfl
    ⟨g3, c3, rfl, hO.mod hm (by omega), by omega, HM3.out.step hm (fun i hi hs => by omega)⟩
theorem lent11_any (rs : List Rm) (v0 : Value) (w : World) (hr : RsAt w v0 rs) (hs : SmallPm rs) :
    Calls Tryz.prog 24 #[.agg #[v0]] w fun e w' => ∃ gp cp ys, e = .returned (.agg #[.slice (some ⟨gp, 0, none⟩) rs.length cp]) ∧
      OwnP w' (w.heap.size + 2) rs gp cp ys ∧ Mod (fun _ => False) w w' := by
  obtain ⟨hsl, hss⟩ := hs
  obtain ⟨ad, c, xv, rfl, hx, hrx, hxt⟩ := hr
  have HR := Lib.hid hrx; have HX := Lib.hid hx; have HXT := Lib.hid hxt; have HSS := Lib.hid hss
  clear hrx hx hxt hss
  have hm0 : Mod (fun _ => False) w ((w.alloc (.cells #[.slice ad rs.length c] 24)).alloc (.cells #[.slice none 0 0] 24)) := ((Mod.refl _ w).alloc _).alloc _
  have hb0 : ((w.alloc (.cells #[.slice ad rs.length c] 24)).alloc (.cells #[.slice none 0 0] 24)).heap[w.heap.size]? = some (.cells #[.slice ad rs.length c] 24 (0, 0)) :=
    ((Mod.refl (fun _ => False) _).alloc _).at (heap_alloc_new w _) id
  have hb1 : ((w.alloc (.cells #[.slice ad rs.length c] 24)).alloc (.cells #[.slice none 0 0] 24)).heap[w.heap.size + 1]? = some (.cells #[.slice none 0 0] 24 (0, 0)) := by
    have := heap_alloc_new (w.alloc (.cells #[.slice ad rs.length c] 24)) (.cells #[.slice none 0 0] 24)
    simpa using this
  have hs2 : w.heap.size + 2 ≤ ((w.alloc (.cells #[.slice ad rs.length c] 24)).alloc (.cells #[.slice none 0 0] 24)).heap.size := by simp
  go_enter Tryz.func24, Tryz.ntmps24
  go_wp2_with fail
  generalize ((w.alloc (.cells #[.slice ad rs.length c] 24)).alloc (.cells #[.slice none 0 0] 24)) = w2 at *
  have HG0 : Hid (GathP w w2 (w.heap.size + 2) rs 0 none 0 []) :=
    ⟨rfl, Mine.Own.nil _ _ _, (fun _ h => by cases h), List.Pairwise.nil, (fun _ h => by cases h), (by intro b h; simp at h), hm0⟩
  have HB0 := Lib.hid hb0; have HB1 := Lib.hid hb1
  clear hb0 hb1 hm0
  go_loopw [3, 4] (fun lv iv wr => ∃ (k c' : Nat) (a' : Option Addr) (ys : List Yr), lv = .slice a' k c' ∧ iv = .int .i64 k ∧ k ≤ rs.length ∧ Hid (GathP w wr (w.heap.size + 2) rs k a' c' ys) ∧ w.heap.size + 2 ≤ wr.heap.size ∧ Hid (wr.heap[w.heap.size]? = some (.cells #[.slice ad rs.length c] 24 (0, 0))) ∧ Hid (wr.heap[w.heap.size + 1]? = some (.cells #[.slice none 0 0] 24 (0, 0)))) (fun _ iv _ => rs.length - (intOf iv).toNat)
  case atStart => exact ⟨0, 0, none, [], rfl, rfl, Nat.zero_le _, HG0, hs2, HB0, HB1⟩
  case round =>
    obtain ⟨k, c', a', ys, rfl, rfl, hk, hG, hsw, hB0, hB1⟩ := hrel
    clear HG0 HB0 HB1 hs2
    have c2 := cell_at (j := 0) hB0.out rfl
    by_cases hlt : k < rs.length
    · obtain ⟨⟨sk, bk⟩, hx, hmem⟩ := xs_get HX.out hlt
      obtain ⟨bb, o, rfl, x0, x1, x2⟩ := rd_cellR (HR.out.mod hG.out.mod (fun _ _ => id)) hx
      have hsm := HSS.out _ (List.getElem_mem hlt)
      obtain ⟨⟨sa, sc, hsk, _⟩, ⟨ba, bc, xl, hbk, hxl, hrl, htl⟩⟩ := id (HXT.out _ hmem)
      simp only at hsk hbk
      have HTS := Lib.hid ((HXT.out _ hmem).1.mod0 hG.out.mod)
      subst hsk hbk
      have HXL := Lib.hid hxl; have HRL := Lib.hid (hrl.mod hG.out.mod (fun _ _ => id)); have HTL := Lib.hid (fun x hx => (htl x hx).mod0 hG.out.mod)
      obtain ⟨hn1, hn2, hn3⟩ : SmR rs[k] := ⟨hsm.1.2.1, hsm.2.1, fun l hl => (hsm.2.2 l hl).1.2.1⟩
      have HN3 := Lib.hid hn3
      clear hx hmem hsm hxl hrl htl hn3
      obtain ⟨t, hteq⟩ : ∃ t, t = rs[k] := ⟨_, rfl⟩
      rw [← hteq] at x0 x1 x2 HTS HXL HN3 hn1 hn2
      have HTE : Hid (rs[k] = t) := hteq.symm
      clear hteq
      obtain ⟨⟨pr, hts⟩, ls⟩ := t
      simp only at x0 x1 x2 HTS HXL HTL HN3 hn1 hn2
      obtain ⟨wo, rfl⟩ : ∃ v, v = wr := ⟨_, rfl⟩
      have hmB : Mod (fun _ => False) wo (wo.alloc (.cells #[.string pr, .slice sa hts.length sc, .slice ba ls.length bc] 46)) := (Mod.refl _ wo).alloc _
      have HBX := Lib.hid (heap_alloc_new wo (.cells #[.string pr, .slice sa hts.length sc, .slice ba ls.length bc] 46))
      have HA := Lib.hid (lentAtom11_any pr hts _ _ (HTS.out.mod0 hmB) hn1)
      have r0 := cell_at (j := 0) HBX.out rfl
      have r1 := cell_at (j := 1) HBX.out rfl
      have r2 := cell_at (j := 2) HBX.out rfl
      have HMB := Lib.hid hmB
      clear hmB
      go_wp2_with fail
      clear r0 r1 r2
      refine HA.out.mono ?_
      rintro e w1 ⟨gh, ch, rfl, hO1, hg1, hM1⟩
      simp only [World.size_alloc] at hg1
      have k0 := hM1.at HBX.out id
      have hM1' := HMB.out.trans hM1
      have hs1 := hM1.size
      rw [World.size_alloc] at hs1
      have y0 := cell_at (j := 0) k0 rfl
      have y1 := cell_at (j := 1) k0 rfl
      have y2 := cell_at (j := 2) k0 rfl
      have f0 : w1.frozen? ⟨wo.heap.size, 0, none⟩ = false := frozen_at k0
      have f1 : w1.frozen? ⟨wo.heap.size, 1, none⟩ = false := frozen_at k0
      have K0 := Lib.hid k0; have HM1 := Lib.hid hM1'; have HO1 := Lib.hid hO1
      clear k0 hM1' hO1 hM1 HA HBX HMB
      go_wp2_with fail
      have hmw : Mod (fun k => k = wo.heap.size) w1 ((w1.setCell ⟨wo.heap.size, 0, none⟩ (.string pr)).setCell ⟨wo.heap.size, 1, none⟩ (.slice (some ⟨gh, 0, none⟩) hts.length ch)) :=
        ((Mod.refl (fun k => k = wo.heap.size) w1).setCell (p := ⟨wo.heap.size, 0, none⟩) (fun _ => rfl) _).setCell (p := ⟨wo.heap.size, 1, none⟩) (fun _ => rfl) _
      have hbr := heap_setCell_at (j := 1) (.slice (some ⟨gh, 0, none⟩) hts.length ch) (heap_setCell_at (j := 0) (.string pr) K0.out)
      have hbr' : ((w1.setCell ⟨wo.heap.size, 0, none⟩ (.string pr)).setCell ⟨wo.heap.size, 1, none⟩ (.slice (some ⟨gh, 0, none⟩) hts.length ch)).heap[wo.heap.size]? = some (.cells #[.string pr, .slice (some ⟨gh, 0, none⟩) hts.length ch, .slice ba ls.length bc] 46 (0, 0)) := hbr
      have hO2 : OwnT ((w1.setCell ⟨wo.heap.size, 0, none⟩ (.string pr)).setCell ⟨wo.heap.size, 1, none⟩ (.slice (some ⟨gh, 0, none⟩) hts.length ch)) gh ch hts := HO1.out.mod hmw (by omega)
      have hM2 : Mod (fun _ => False) wo ((w1.setCell ⟨wo.heap.size, 0, none⟩ (.string pr)).setCell ⟨wo.heap.size, 1, none⟩ (.slice (some ⟨gh, 0, none⟩) hts.length ch)) := HM1.out.step hmw (fun i hi hs => by omega)
      have hs3 : wo.heap.size + 1 ≤ ((w1.setCell ⟨wo.heap.size, 0, none⟩ (.string pr)).setCell ⟨wo.heap.size, 1, none⟩ (.slice (some ⟨gh, 0, none⟩) hts.length ch)).heap.size := Nat.le_trans hs1 hmw.size
      generalize ((w1.setCell ⟨wo.heap.size, 0, none⟩ (.string pr)).setCell ⟨wo.heap.size, 1, none⟩ (.slice (some ⟨gh, 0, none⟩) hts.length ch)) = w2' at *
      have HG2 : Hid (Gath wo w2' (wo.heap.size + 1) gh ch hts ls 0 none 0 []) :=
        ⟨rfl, Mine.Own.nil _ _ _, hO2, (fun _ h => by cases h), (by simp [blks]), (fun b hb => by simp [blks] at hb; subst hb; exact ⟨hg1, hO2.lt, by simp⟩), (by intro b h; simp at h), hM2⟩
      have HBR := Lib.hid hbr'
      clear hmw hbr hbr' hO2 hM2 K0 HM1 HO1 f0 f1 c2 x0 x1 x2 y0 y1 y2
      go_loopw [7, 8] (fun lv iv wr => ∃ (j c' : Nat) (a' : Option Addr) (xs : List X3), lv = .slice a' j c' ∧ iv = .int .i64 j ∧ j ≤ ls.length ∧ Hid (Gath wo wr (wo.heap.size + 1) gh ch hts ls j a' c' xs) ∧ wo.heap.size + 1 ≤ wr.heap.size ∧ Hid (wr.heap[wo.heap.size]? = some (.cells #[.string pr, .slice (some ⟨gh, 0, none⟩) hts.length ch, .slice ba ls.length bc] 46 (0, 0)))) (fun _ iv _ => ls.length - (intOf iv).toNat)
      case atStart => exact ⟨0, 0, none, [], rfl, rfl, Nat.zero_le _, HG2, hs3, HBR⟩
      case round =>
        obtain ⟨j, c'', a'', xs, rfl, rfl, hj, hI, hsI, hBI⟩ := hrel
        clear HG2 HBR hs3
        have c2 := cell_at (j := 2) hBI.out rfl
        by_cases hlj : j < ls.length
        · obtain ⟨sk, hx, hmem⟩ := xs_get HXL.out hlj
          obtain ⟨bb2, o2, rfl, x0, x1, x2, x3, x4, x5, x6, x7⟩ := rd_cell8 (HRL.out.mod hI.out.mod (fun _ _ => id)) hx
          have htn := HN3.out _ (List.getElem_mem hlj)
          have HTT := Lib.hid (HTL.out _ hmem)
          obtain ⟨sa3, sc3, hsk, _⟩ := HTL.out _ hmem
          simp only at hsk
          subst hsk
          clear hx hmem
          obtain ⟨t, hteq⟩ : ∃ t, t = ls[j] := ⟨_, rfl⟩
          rw [← hteq] at x0 x1 x2 x3 x4 x5 x6 x7 htn HTT
          have HTE2 : Hid (ls[j] = t) := hteq.symm
          clear hteq
          obtain ⟨lk, ⟨lp, lts⟩, lo, ⟨ll1, ll2⟩, ⟨lr1, lr2⟩⟩ := t
          simp only at x0 x1 x2 x3 x4 x5 x6 x7 htn HTT ⊢
          have hmv : Mod (fun _ => False) wr (wr.alloc (.cells #[.int .i64 lk, .string lp, .slice sa3 lts.length sc3, .int .i64 lo, .int .i64 ll1, .string ll2, .int .i64 lr1, .string lr2] 102)) := (Mod.refl _ wr).alloc _
          have HA := Lib.hid (lentAtom11_any lp lts _ _ (HTT.out.mod0 (hI.out.mod.trans hmv)) htn)
          have HNB := Lib.hid (heap_alloc_new wr (.cells #[.int .i64 lk, .string lp, .slice sa3 lts.length sc3, .int .i64 lo, .int .i64 ll1, .string ll2, .int .i64 lr1, .string lr2] 102))
          have HMV := Lib.hid hmv
          have r1 := cell_at (j := 1) HNB.out rfl
          have r2 := cell_at (j := 2) HNB.out rfl
          clear hmv
          go_wp2_with fail
          clear r1 r2
          refine HA.out.mono ?_
          rintro e v1 ⟨g, cg, rfl, hT, hgV, hMv⟩
          simp only [World.size_alloc] at hgV
          have kb := hMv.at HNB.out id
          have y0 := cell_at (j := 0) kb rfl
          have y1 := cell_at (j := 1) kb rfl
          have y2 := cell_at (j := 2) kb rfl
          have y3 := cell_at (j := 3) kb rfl
          have y4 := cell_at (j := 4) kb rfl
          have y5 := cell_at (j := 5) kb rfl
          have y6 := cell_at (j := 6) kb rfl
          have y7 := cell_at (j := 7) kb rfl
          have g1 : v1.frozen? ⟨wr.heap.size, 1, none⟩ = false := frozen_at kb
          have g2 : v1.frozen? ⟨wr.heap.size, 2, none⟩ = false := frozen_at kb
          have hm2 : Mod (fun _ => False) wr ((v1.setCell ⟨wr.heap.size, 1, none⟩ (.string lp)).setCell ⟨wr.heap.size, 2, none⟩ (.slice (some ⟨g, 0, none⟩) lts.length cg)) :=
            ((HMV.out.trans hMv).setCell (p := ⟨wr.heap.size, 1, none⟩) (fun h => by simp at h) _).setCell (p := ⟨wr.heap.size, 2, none⟩) (fun h => by simp at h) _
          have hmx : Mod (fun k => k = wr.heap.size) v1 ((v1.setCell ⟨wr.heap.size, 1, none⟩ (.string lp)).setCell ⟨wr.heap.size, 2, none⟩ (.slice (some ⟨g, 0, none⟩) lts.length cg)) :=
            ((Mod.refl (fun k => k = wr.heap.size) v1).setCell (p := ⟨wr.heap.size, 1, none⟩) (fun _ => rfl) _).setCell (p := ⟨wr.heap.size, 2, none⟩) (fun _ => rfl) _
          have HT2 := Lib.hid (hT.mod hmx (by omega))
          have HM2 := Lib.hid hm2
          have HOO := Lib.hid (hI.out.own.mod hm2 (fun _ _ => id))
          clear hm2 hmx hT hMv kb HA HNB HMV
          go_wp2_with (at_builtin; refine wpL_appendN (us := [.int .i64 lk, .string lp, .slice (some ⟨g, 0, none⟩) lts.length cg, .int .i64 lo, .int .i64 ll1, .string ll2, .int .i64 lr1, .string lr2]) rfl (.tmp 43) (.tmp 45) 44 rfl tiL rfl HOO.out rfl rfl rfl (by omega) (by unfold maxLen; omega) ?_; intro a4 c4 w4 hO4 hG4 _; have HO4 := Lib.hid hO4; have HG4 := Lib.hid hG4; clear hO4 hG4)
          have HGS := Lib.hid (hI.out.step hlj HTE2.out (by omega) hsI HM2.out HT2.out (by omega) HO4.out HG4.out)
          have hsz4 := Nat.le_trans HM2.out.size HG4.out.mod.size
          have HB04 := Lib.hid (HG4.out.mod.at (HM2.out.at hBI.out id) (fun e => by have := hI.out.la _ e; omega))
          go_roundw
          case rel => exact ⟨j + 1, c4, a4, _, rfl, by go_num, hlj, HGS, by omega, HB04⟩
          case measure => simp [intOf]; omega
        · obtain rfl : j = ls.length := by omega
          go_wp2_with (first
            | (at_builtin; refine wpL_appendN (us := [.int .i64 (-72), .string ⟨#[]⟩, .slice none 0 0, .int .i64 0, .int .i64 0, .string ⟨#[]⟩, .int .i64 0, .string ⟨#[]⟩]) rfl (.tmp 47) (.tmp 49) 44 rfl tiL rfl hI.out.own rfl rfl rfl (by omega) (by unfold maxLen; omega) ?_; intro a4 c4 w4 hO4 hG4 _
               obtain ⟨gb, rfl⟩ := hO4.atHead (by omega)
               have hc4 : ls.length + 1 ≤ c4 ∧ c4 ≤ maxLen := by
                 obtain ⟨_, _, _, _, h1, h2, _⟩ := hO4.2.resolve_left (by simp)
                 exact ⟨h1, h2⟩
               obtain ⟨hc4, hcm⟩ := hc4
               unfold maxLen at hcm
               have hb4 := hG4.mod.at hBI.out (fun e => by have := hI.out.la _ e; omega)
               have d0 := cell_at (j := 0) hb4 rfl
               have d1 := cell_at (j := 1) hb4 rfl
               have d2 := cell_at (j := 2) hb4 rfl
               have p2 : w4.frozen? ⟨wo.heap.size, 2, none⟩ = false := frozen_at hb4
               have hF := hI.out.fin (pr := pr) (by omega) hsI (Mod.refl _ wr) hO4 hG4
               have hmw : Mod (fun k => k = wo.heap.size) w4 (w4.setCell ⟨wo.heap.size, 2, none⟩ (.slice (some ⟨gb, 0, none⟩) ls.length c4)) := (Mod.refl (fun k => k = wo.heap.size) w4).setCell (p := ⟨wo.heap.size, 2, none⟩) (fun _ => rfl) _
               have hMW : Mod (fun _ => False) wo (w4.setCell ⟨wo.heap.size, 2, none⟩ (.slice (some ⟨gb, 0, none⟩) ls.length c4)) := hF.2.step hmw (fun i hi hs => by omega)
               have HY : Hid (OwnY (w4.setCell ⟨wo.heap.size, 2, none⟩ (.slice (some ⟨gb, 0, none⟩) ls.length c4)) ⟨⟨⟨pr, hts⟩, ls⟩, gh, ch, gb, c4, xs, wo.heap.size, (w4.setCell ⟨wo.heap.size, 2, none⟩ (.slice (some ⟨gb, 0, none⟩) ls.length c4)).heap.size⟩) := Lib.hid ((hF.1.mod hmw (fun b h e => by have e : b = wo.heap.size := e; have h1 := h.1; omega)).mono (fun b h => ⟨(show wo.heap.size ≤ b from by have h1 := h.1; omega), (show b < (w4.setCell ⟨wo.heap.size, 2, none⟩ (.slice (some ⟨gb, 0, none⟩) ls.length c4)).heap.size from by have h2 := h.2; have h3 := hmw.size; omega)⟩))
               have HOO := Lib.hid (hG.out.own.mod hMW (fun _ _ => id))
               have HMW := Lib.hid hMW
               clear hO4 hG4 hb4 hF hmw hMW)
            | (at_builtin; refine wpL_appendN (us := [.string pr, .slice (some ⟨gh, 0, none⟩) hts.length ch, .slice (some ⟨gb, 0, none⟩) ls.length c4]) rfl (.tmp 55) (.tmp 57) 22 rfl tiR rfl HOO.out rfl rfl rfl (by omega) (by unfold maxLen; omega) ?_; intro a5 c5 w5 hO5 hG5 _; have HO5 := Lib.hid hO5; have HG5 := Lib.hid hG5; clear hO5 hG5))
          have HGS := Lib.hid (hG.out.step (y := ⟨⟨⟨pr, hts⟩, ls⟩, gh, ch, gb, c4, xs, wo.heap.size, (w4.setCell ⟨wo.heap.size, 2, none⟩ (.slice (some ⟨gb, 0, none⟩) ls.length c4)).heap.size⟩) hlt HTE.out (by omega) hsw HMW.out HY.out rfl (Nat.le_refl _) HO5.out HG5.out)
          have hsz5 := Nat.le_trans HMW.out.size HG5.out.mod.size
          have HB05 := Lib.hid (HG5.out.mod.at (HMW.out.at hB0.out id) (fun e => by have := hG.out.la _ e; omega))
          have HB15 := Lib.hid (HG5.out.mod.at (HMW.out.at hB1.out id) (fun e => by have := hG.out.la _ e; omega))
          go_roundw
          case rel => exact ⟨k + 1, c5, a5, _, rfl, by go_num, hlt, HGS, by omega, HB05, HB15⟩
          case measure => simp [intOf]; omega
    · obtain rfl : k = rs.length := by omega
      go_wp2_with (at_builtin; refine wpL_appendN (us := [.string ⟨#[109, 97, 114, 107]⟩, .slice none 0 0, .slice none 0 0]) rfl (.tmp 59) (.tmp 62) 22 rfl tiR rfl hG.out.own rfl rfl rfl (by omega) (by unfold maxLen; omega) ?_; intro a4 c4 w4 hO4 hG4 _
                   obtain ⟨gp, rfl⟩ := hO4.atHead (by omega)
                   have hc4 : rs.length + 1 ≤ c4 ∧ c4 ≤ maxLen := by
                     obtain ⟨_, _, _, _, h1, h2, _⟩ := hO4.2.resolve_left (by simp)
                     exact ⟨h1, h2⟩
                   obtain ⟨hc4, hcm⟩ := hc4
                   unfold maxLen at hcm
                   have hb04 := hG4.mod.at hB0.out (fun e => by have := hG.out.la _ e; omega)
                   have hb14 := hG4.mod.at hB1.out (fun e => by have := hG.out.la _ e; omega)
                   have d0 := cell_at (j := 0) hb04 rfl
                   have p0 : w4.frozen? ⟨w.heap.size, 0, none⟩ = false := frozen_at hb04
                   have e0 := cell_at (j := 0) hb14 rfl
                   have q0 : w4.frozen? ⟨w.heap.size + 1, 0, none⟩ = false := frozen_at hb14
                   have HF := Lib.hid (hG.out.fin (by omega) hsw hO4 hG4)
                   have HB14 := Lib.hid hb14
                   clear hO4 hG4 hb04 hb14)
      obtain ⟨hR, hMf⟩ := HF.out
      have hm : Mod (fun k => k = w.heap.size + 1) w4 (w4.setCell ⟨w.heap.size + 1, 0, none⟩ (.slice (some ⟨gp, 0, none⟩) rs.length c4)) := (Mod.refl (fun k => k = w.heap.size + 1) w4).setCell (p := ⟨w.heap.size + 1, 0, none⟩) (fun _ => rfl) _
      have hb := heap_setCell_at (j := 0) (.slice (some ⟨gp, 0, none⟩) rs.length c4) HB14.out
      have z0 := cell_at (j := 0) (u := (.slice (some ⟨gp, 0, none⟩) rs.length c4)) hb rfl
      generalize (w4.setCell ⟨w.heap.size + 1, 0, none⟩ (.slice (some ⟨gp, 0, none⟩) rs.length c4)) = W at *
      exact bodyPost_ret (v := .agg #[.slice (some ⟨gp, 0, none⟩) rs.length c4]) (by simp [results, Tryz.results24, go_sem, z0]) rfl
        ⟨gp, c4, ys, rfl, hR.mod hm (fun b h e => by omega), hMf.step hm (fun i hi hs => by omega)⟩
end Go.Proofs.YteecbbnpgmceiaaGreatDoor.L8
