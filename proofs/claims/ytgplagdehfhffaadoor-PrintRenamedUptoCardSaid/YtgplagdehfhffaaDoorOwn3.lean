/-
  own walked.
-/
import Derived.Test.YtgplagdehfhffaaDoorOwn2
namespace Go.Proofs.YtgplagdehfhffaaDoor
open Go Go.RowKit Go.Mine
set_option linter.unusedVariables false
set_option maxHeartbeats 8000000
set_option maxRecDepth 100000

theorem own_any (r : Rm) (s b : Value) (w : World) (ht : TsAt w s r.head.terms) (hl : LsAt w b r.body) (hn1 : r.head.terms.length < 2 ^ 30) (hn2 : r.body.length < 2 ^ 30) (hn3 : ∀ l ∈ r.body, l.atom.terms.length < 2 ^ 30) :
    Calls Tryd.prog 43 #[rmV r s b] w fun e w' => ∃ gh ch gb cb xs, e = .returned (.agg #[.string r.head.pred, .slice (some ⟨gh, 0, none⟩) r.head.terms.length ch, .slice (some ⟨gb, 0, none⟩) r.body.length cb]) ∧
      OwnR w' (fun b => w.heap.size ≤ b ∧ b < w'.heap.size) r gh ch gb cb xs ∧ Mod (fun _ => False) w w' := by
  obtain ⟨⟨pr, hts⟩, ls⟩ := r
  unfold rmV
  simp only at ht hl hn1 hn2 hn3 ⊢
  have HT := Lib.hid ht
  obtain ⟨ad, c, rfl, _⟩ := ht
  obtain ⟨bd, bc, xv, rfl, hx, hrx, hxt⟩ := hl
  have HR := Lib.hid hrx; have HX := Lib.hid hx; have HXT := Lib.hid hxt; have HN3 := Lib.hid hn3
  clear hrx hx hxt hn3
  have hm0 : Mod (fun _ => False) w ((w.alloc (.cells #[.string pr, .slice ad hts.length c, .slice bd ls.length bc] 40)).alloc (.cells #[.string ⟨#[]⟩, .slice none 0 0, .slice none 0 0] 40)) := ((Mod.refl _ w).alloc _).alloc _
  have hb0 : ((w.alloc (.cells #[.string pr, .slice ad hts.length c, .slice bd ls.length bc] 40)).alloc (.cells #[.string ⟨#[]⟩, .slice none 0 0, .slice none 0 0] 40)).heap[w.heap.size]? = some (.cells #[.string pr, .slice ad hts.length c, .slice bd ls.length bc] 40 (0, 0)) :=
    ((Mod.refl (fun _ => False) _).alloc _).at (heap_alloc_new w _) id
  have hb1 : ((w.alloc (.cells #[.string pr, .slice ad hts.length c, .slice bd ls.length bc] 40)).alloc (.cells #[.string ⟨#[]⟩, .slice none 0 0, .slice none 0 0] 40)).heap[w.heap.size + 1]? = some (.cells #[.string ⟨#[]⟩, .slice none 0 0, .slice none 0 0] 40 (0, 0)) := by
    have := heap_alloc_new (w.alloc (.cells #[.string pr, .slice ad hts.length c, .slice bd ls.length bc] 40)) (.cells #[.string ⟨#[]⟩, .slice none 0 0, .slice none 0 0] 40)
    simpa using this
  have hsz : ((w.alloc (.cells #[.string pr, .slice ad hts.length c, .slice bd ls.length bc] 40)).alloc (.cells #[.string ⟨#[]⟩, .slice none 0 0, .slice none 0 0] 40)).heap.size = w.heap.size + 2 := by simp
  have HA := Lib.hid (ownAtom_any pr hts _ _ (HT.out.mod0 hm0) hn1)
  have HB := Lib.hid (And.intro hb0 (And.intro hb1 (And.intro hsz hm0)))
  clear hb0 hb1 hsz hm0
  go_enter Tryd.func43, Tryd.ntmps43
  go_wp2_with fail
  refine HA.out.mono ?_
  rintro e w1 ⟨gh, ch, rfl, hO1, hg1, hM1⟩
  obtain ⟨hb0, hb1, hsz, hm0⟩ := HB.out
  have k0 := hM1.at hb0 id
  have k1 := hM1.at hb1 id
  have hM1' := hm0.trans hM1
  rw [hsz] at hg1
  have hs1 := hM1.size
  rw [hsz] at hs1
  clear HA HB hb0 hb1 hsz hm0 hM1
  have c0 := cell_at (j := 0) k0 rfl
  have c1 := cell_at (j := 1) k0 rfl
  have f0 : w1.frozen? ⟨w.heap.size, 0, none⟩ = false := frozen_at k0
  have f1 : w1.frozen? ⟨w.heap.size, 1, none⟩ = false := frozen_at k0
  have K0 := Lib.hid k0; have K1 := Lib.hid k1; have HM1 := Lib.hid hM1'; have HO1 := Lib.hid hO1
  clear k0 k1 hM1' hO1
  go_wp2_with fail
  have hmw : Mod (fun k => k = w.heap.size) w1 ((w1.setCell ⟨w.heap.size, 0, none⟩ (.string pr)).setCell ⟨w.heap.size, 1, none⟩ (.slice (some ⟨gh, 0, none⟩) hts.length ch)) :=
    ((Mod.refl (fun k => k = w.heap.size) w1).setCell (p := ⟨w.heap.size, 0, none⟩) (fun _ => rfl) _).setCell (p := ⟨w.heap.size, 1, none⟩) (fun _ => rfl) _
  have hb0 := heap_setCell_at (j := 1) (.slice (some ⟨gh, 0, none⟩) hts.length ch) (heap_setCell_at (j := 0) (.string pr) K0.out)
  have hb0' : ((w1.setCell ⟨w.heap.size, 0, none⟩ (.string pr)).setCell ⟨w.heap.size, 1, none⟩ (.slice (some ⟨gh, 0, none⟩) hts.length ch)).heap[w.heap.size]? = some (.cells #[.string pr, .slice (some ⟨gh, 0, none⟩) hts.length ch, .slice bd ls.length bc] 40 (0, 0)) := hb0
  have hb1 := hmw.at K1.out (by omega)
  have hO2 : OwnT ((w1.setCell ⟨w.heap.size, 0, none⟩ (.string pr)).setCell ⟨w.heap.size, 1, none⟩ (.slice (some ⟨gh, 0, none⟩) hts.length ch)) gh ch hts := HO1.out.mod hmw (by omega)
  have hM2 : Mod (fun _ => False) w ((w1.setCell ⟨w.heap.size, 0, none⟩ (.string pr)).setCell ⟨w.heap.size, 1, none⟩ (.slice (some ⟨gh, 0, none⟩) hts.length ch)) := HM1.out.step hmw (fun i hi hs => by omega)
  have hs2 : w.heap.size + 2 ≤ ((w1.setCell ⟨w.heap.size, 0, none⟩ (.string pr)).setCell ⟨w.heap.size, 1, none⟩ (.slice (some ⟨gh, 0, none⟩) hts.length ch)).heap.size := Nat.le_trans hs1 hmw.size
  generalize ((w1.setCell ⟨w.heap.size, 0, none⟩ (.string pr)).setCell ⟨w.heap.size, 1, none⟩ (.slice (some ⟨gh, 0, none⟩) hts.length ch)) = w2 at *
  have HG0 : Hid (Gath w w2 (w.heap.size + 2) gh ch hts ls 0 none 0 []) :=
    ⟨rfl, Mine.Own.nil _ _ _, hO2, (fun _ h => by cases h), (by simp [blks]), (fun b hb => by simp [blks] at hb; subst hb; exact ⟨hg1, hO2.lt, by simp⟩), (by intro b h; simp at h), hM2⟩
  have HB0 := Lib.hid hb0'; have HB1 := Lib.hid hb1
  clear hmw hb0 hb0' hb1 hO2 hM2 K0 K1 HM1 HO1 c0 c1 f0 f1
  go_loopw [3, 4] (fun lv iv wr => ∃ (k c' : Nat) (a' : Option Addr) (xs : List X3), lv = .slice a' k c' ∧ iv = .int .i64 k ∧ k ≤ ls.length ∧ Hid (Gath w wr (w.heap.size + 2) gh ch hts ls k a' c' xs) ∧ w.heap.size + 2 ≤ wr.heap.size ∧ Hid (wr.heap[w.heap.size]? = some (.cells #[.string pr, .slice (some ⟨gh, 0, none⟩) hts.length ch, .slice bd ls.length bc] 40 (0, 0))) ∧ Hid (wr.heap[w.heap.size + 1]? = some (.cells #[.string ⟨#[]⟩, .slice none 0 0, .slice none 0 0] 40 (0, 0)))) (fun _ iv _ => ls.length - (intOf iv).toNat)
  case atStart => exact ⟨0, 0, none, [], rfl, rfl, Nat.zero_le _, HG0, hs2, HB0, HB1⟩
  case round =>
    obtain ⟨k, c', a', xs, rfl, rfl, hk, hG, hsw, hB0, hB1⟩ := hrel
    clear HG0 HB0 HB1 hs2
    have c2 := cell_at (j := 2) hB0.out rfl
    by_cases hlt : k < ls.length
    · obtain ⟨sk, hx, hmem⟩ := xs_get HX.out hlt
      obtain ⟨bb, o, rfl, x0, x1, x2, x3, x4, x5, x6, x7⟩ := rd_cell8 (HR.out.mod hG.out.mod (fun _ _ => id)) hx
      have htn := HN3.out _ (List.getElem_mem hlt)
      have HTS := Lib.hid (HXT.out _ hmem)
      obtain ⟨sa, sc, hsk, _⟩ := HXT.out _ hmem
      simp only at hsk
      subst hsk
      have HLK : Hid (ls[k] = ls[k]) := rfl
      clear hx hmem
      obtain ⟨t, hteq⟩ : ∃ t, t = ls[k] := ⟨_, rfl⟩
      rw [← hteq] at x0 x1 x2 x3 x4 x5 x6 x7 htn HTS
      have HTE : Hid (ls[k] = t) := hteq.symm
      clear hteq HLK
      obtain ⟨lk, ⟨lp, lts⟩, lo, ⟨ll1, ll2⟩, ⟨lr1, lr2⟩⟩ := t
      simp only at x0 x1 x2 x3 x4 x5 x6 x7 htn HTS ⊢
      have hmv : Mod (fun _ => False) wr (wr.alloc (.cells #[.int .i64 lk, .string lp, .slice sa lts.length sc, .int .i64 lo, .int .i64 ll1, .string ll2, .int .i64 lr1, .string lr2] 62)) := (Mod.refl _ wr).alloc _
      have HA := Lib.hid (ownAtom_any lp lts _ _ (HTS.out.mod0 (hG.out.mod.trans hmv)) htn)
      have HNB := Lib.hid (heap_alloc_new wr (.cells #[.int .i64 lk, .string lp, .slice sa lts.length sc, .int .i64 lo, .int .i64 ll1, .string ll2, .int .i64 lr1, .string lr2] 62))
      have HMV := Lib.hid hmv
      clear hmv
      go_wp2_with fail
      refine HA.out.mono ?_
      rintro e v1 ⟨g, cg, rfl, hT, hgV, hMv⟩
      simp only [World.size_alloc] at hgV
      have kb := hMv.at HNB.out id
      have y0 := cell_at (j := 0) kb rfl
      have y1 := cell_at (j := 1) kb rfl
      have y2 := cell_at (j := 2) kb rfl
      have y3 := cell_at (j := 3) kb rfl
      have y4 := cell_at (j := 4) kb rfl
      have y5 := cell_at (j := 5) kb rfl
      have y6 := cell_at (j := 6) kb rfl
      have y7 := cell_at (j := 7) kb rfl
      have g1 : v1.frozen? ⟨wr.heap.size, 1, none⟩ = false := frozen_at kb
      have g2 : v1.frozen? ⟨wr.heap.size, 2, none⟩ = false := frozen_at kb
      have hm2 : Mod (fun _ => False) wr ((v1.setCell ⟨wr.heap.size, 1, none⟩ (.string lp)).setCell ⟨wr.heap.size, 2, none⟩ (.slice (some ⟨g, 0, none⟩) lts.length cg)) :=
        ((HMV.out.trans hMv).setCell (p := ⟨wr.heap.size, 1, none⟩) (fun h => by simp at h) _).setCell (p := ⟨wr.heap.size, 2, none⟩) (fun h => by simp at h) _
      have hmx : Mod (fun k => k = wr.heap.size) v1 ((v1.setCell ⟨wr.heap.size, 1, none⟩ (.string lp)).setCell ⟨wr.heap.size, 2, none⟩ (.slice (some ⟨g, 0, none⟩) lts.length cg)) :=
        ((Mod.refl (fun k => k = wr.heap.size) v1).setCell (p := ⟨wr.heap.size, 1, none⟩) (fun _ => rfl) _).setCell (p := ⟨wr.heap.size, 2, none⟩) (fun _ => rfl) _
      have HT2 := Lib.hid (hT.mod hmx (by omega))
      have HM2 := Lib.hid hm2
      have HOO := Lib.hid (hG.out.own.mod hm2 (fun _ _ => id))
      clear hm2 hmx hT hMv kb HA HNB HMV
      go_wp2_with (at_builtin; refine wpL_appendN (us := [.int .i64 lk, .string lp, .slice (some ⟨g, 0, none⟩) lts.length cg, .int .i64 lo, .int .i64 ll1, .string ll2, .int .i64 lr1, .string lr2]) rfl (.tmp 26) (.tmp 28) 38 rfl tiL rfl HOO.out rfl rfl rfl (by omega) (by unfold maxLen; omega) ?_; intro a4 c4 w4 hO4 hG4 _; have HO4 := Lib.hid hO4; have HG4 := Lib.hid hG4; clear hO4 hG4)
      have HGS := Lib.hid (hG.out.step hlt HTE.out (by omega) hsw HM2.out HT2.out (by omega) HO4.out HG4.out)
      have hsz4 := Nat.le_trans HM2.out.size HG4.out.mod.size
      have hb04 := HG4.out.mod.at (HM2.out.at hB0.out id) (fun e => by have := hG.out.la _ e; omega)
      have hb14 := HG4.out.mod.at (HM2.out.at hB1.out id) (fun e => by have := hG.out.la _ e; omega)
      have HB04 := Lib.hid hb04; have HB14 := Lib.hid hb14
      clear hb04 hb14
      go_roundw
      case rel => exact ⟨k + 1, c4, a4, _, rfl, by go_num, hlt, HGS, by omega, HB04, HB14⟩
      case measure => simp [intOf]; omega
    · obtain rfl : k = ls.length := by omega
      go_wp2_with (at_builtin; refine wpL_appendN (us := [.int .i64 (-77), .string ⟨#[]⟩, .slice none 0 0, .int .i64 0, .int .i64 0, .string ⟨#[]⟩, .int .i64 0, .string ⟨#[]⟩]) rfl (.tmp 30) (.tmp 32) 38 rfl tiL rfl hG.out.own rfl rfl rfl (by omega) (by unfold maxLen; omega) ?_; intro a4 c4 w4 hO4 hG4 _
                   obtain ⟨gb, rfl⟩ := hO4.atHead (by omega)
                   have hc4 : ls.length + 1 ≤ c4 ∧ c4 ≤ maxLen := by
                     obtain ⟨_, _, _, _, h1, h2, _⟩ := hO4.2.resolve_left (by simp)
                     exact ⟨h1, h2⟩
                   obtain ⟨hc4, hcm⟩ := hc4
                   unfold maxLen at hcm
                   have hb04 := hG4.mod.at hB0.out (fun e => by have := hG.out.la _ e; omega)
                   have hb14 := hG4.mod.at hB1.out (fun e => by have := hG.out.la _ e; omega)
                   have d0 := cell_at (j := 0) hb04 rfl
                   have d1 := cell_at (j := 1) hb04 rfl
                   have d2 := cell_at (j := 2) hb04 rfl
                   have p2 : w4.frozen? ⟨w.heap.size, 2, none⟩ = false := frozen_at hb04
                   have e0 := cell_at (j := 0) hb14 rfl
                   have e1 := cell_at (j := 1) hb14 rfl
                   have e2 := cell_at (j := 2) hb14 rfl
                   have q0 : w4.frozen? ⟨w.heap.size + 1, 0, none⟩ = false := frozen_at hb14
                   have q1 : w4.frozen? ⟨w.heap.size + 1, 1, none⟩ = false := frozen_at hb14
                   have q2 : w4.frozen? ⟨w.heap.size + 1, 2, none⟩ = false := frozen_at hb14
                   have HF := Lib.hid (hG.out.fin (pr := pr) (by omega) hsw (Mod.refl _ wr) hO4 hG4)
                   have HB14 := Lib.hid hb14
                   clear hO4 hG4 hb04 hb14)
      obtain ⟨hR, hMf⟩ := HF.out
      have hm : Mod (fun k => k = w.heap.size ∨ k = w.heap.size + 1) w4 ((((w4.setCell ⟨w.heap.size, 2, none⟩ (.slice (some ⟨gb, 0, none⟩) ls.length c4)).setCell ⟨w.heap.size + 1, 0, none⟩ (.string pr)).setCell ⟨w.heap.size + 1, 1, none⟩ (.slice (some ⟨gh, 0, none⟩) hts.length ch)).setCell ⟨w.heap.size + 1, 2, none⟩ (.slice (some ⟨gb, 0, none⟩) ls.length c4)) :=
        ((((Mod.refl _ w4).setCell (p := ⟨w.heap.size, 2, none⟩) (fun _ => .inl rfl) _).setCell (p := ⟨w.heap.size + 1, 0, none⟩) (fun _ => .inr rfl) _).setCell (p := ⟨w.heap.size + 1, 1, none⟩) (fun _ => .inr rfl) _).setCell (p := ⟨w.heap.size + 1, 2, none⟩) (fun _ => .inr rfl) _
      have hb := heap_setCell_at (j := 2) (.slice (some ⟨gb, 0, none⟩) ls.length c4) (heap_setCell_at (j := 1) (.slice (some ⟨gh, 0, none⟩) hts.length ch) (heap_setCell_at (j := 0) (.string pr) (((Mod.refl (fun k => k = w.heap.size) w4).setCell (p := ⟨w.heap.size, 2, none⟩) (fun _ => rfl) (.slice (some ⟨gb, 0, none⟩) ls.length c4)).at HB14.out (by omega))))
      have z0 := cell_at (j := 0) (u := .string pr) hb rfl
      have z1 := cell_at (j := 1) (u := .slice (some ⟨gh, 0, none⟩) hts.length ch) hb rfl
      have z2 := cell_at (j := 2) (u := .slice (some ⟨gb, 0, none⟩) ls.length c4) hb rfl
      generalize ((((w4.setCell ⟨w.heap.size, 2, none⟩ (.slice (some ⟨gb, 0, none⟩) ls.length c4)).setCell ⟨w.heap.size + 1, 0, none⟩ (.string pr)).setCell ⟨w.heap.size + 1, 1, none⟩ (.slice (some ⟨gh, 0, none⟩) hts.length ch)).setCell ⟨w.heap.size + 1, 2, none⟩ (.slice (some ⟨gb, 0, none⟩) ls.length c4)) = W at *
      exact bodyPost_ret (v := .agg #[.string pr, .slice (some ⟨gh, 0, none⟩) hts.length ch, .slice (some ⟨gb, 0, none⟩) ls.length c4]) (by simp [results, Tryd.results43, go_sem, z0, z1, z2]) rfl
        ⟨gh, ch, gb, c4, xs, rfl, (hR.mod hm (by rintro b h (e | e) <;> omega)).mono (fun b h => ⟨by omega, by have := hm.size; omega⟩), hMf.step hm (fun i hi hs => by omega)⟩
end Go.Proofs.YtgplagdehfhffaaDoor
