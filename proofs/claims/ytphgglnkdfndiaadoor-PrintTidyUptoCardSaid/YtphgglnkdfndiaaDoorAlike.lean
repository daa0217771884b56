/-
  print.sameAtom, sameLiteral, Alike, and sibylref09.Alike.
-/
import Derived.Test.YtphgglnkdfndiaaDoorSameR
import Derived.Test.YtphgglnkdfndiaaDoorNmG
namespace Go.Proofs.YtphgglnkdfndiaaDoor
open Go Go.RowKit Go.Mine
set_option linter.unusedVariables false
set_option maxHeartbeats 4000000
set_option maxRecDepth 100000

theorem sameAtom_any (p q : ByteArray) (ts us : List Tm) (s1 s2 : Value) (w : World) (h1 : TsAt w s1 ts) (h2 : TsAt w s2 us) (hn : ts.length < 2 ^ 30) (hn2 : us.length < 2 ^ 30) :
    Calls Tryd.prog 56 #[.agg #[.string p, s1], .agg #[.string q, s2]] w (SayEq (⟨p, ts⟩ : Am) ⟨q, us⟩ w) := by
  have HT1 := Lib.hid h1; have HT2 := Lib.hid h2
  obtain ⟨a1, c1, rfl, _⟩ := h1
  obtain ⟨a2, c2, rfl, _⟩ := h2
  have hm0 : Mod (fun _ => False) w ((w.alloc (.cells #[.string p, .slice a1 ts.length c1] 35)).alloc (.cells #[.string q, .slice a2 us.length c2] 35)) := ((Mod.refl _ w).alloc _).alloc _
  by_cases hp : p = q
  rotate_left
  · have hpb := toList_beq hp
    go_enter Tryd.func56, Tryd.ntmps56
    go_wp2_with fail
    go_ret
    exact ⟨false, rfl, ⟨fun h => (by cases h), fun h => absurd (by cases h; rfl) hp⟩, hm0⟩
  subst hp
  have HA := Lib.hid (EqualTs_any ts us _ _ _ (HT1.out.mod0 hm0) (HT2.out.mod0 hm0) hn hn2)
  have HM := Lib.hid hm0; clear hm0
  go_enter Tryd.func56, Tryd.ntmps56
  go_wp2_with fail
  refine HA.out.mono ?_
  rintro e w1 ⟨t, rfl, ht, hM1⟩
  have HT := Lib.hid ht; have HM1 := Lib.hid hM1
  clear ht hM1 HA
  go_wp2_with fail
  go_ret
  exact ⟨t, rfl, ⟨fun h => by rw [HT.out.1 h], fun h => HT.out.2 (by cases h; rfl)⟩, HM.out.trans HM1.out⟩

theorem sameLit_any (lk lo ll1 lr1 mk mo ml1 mr1 : Int) (lp ll2 lr2 mp ml2 mr2 : ByteArray) (lts mts : List Tm) (s1 s2 : Value) (w : World) (h1 : TsAt w s1 lts) (h2 : TsAt w s2 mts) (hn : lts.length < 2 ^ 30) (hn2 : mts.length < 2 ^ 30) :
    Calls Tryd.prog 58 #[lmV ⟨lk, ⟨lp, lts⟩, lo, ⟨ll1, ll2⟩, ⟨lr1, lr2⟩⟩ s1, lmV ⟨mk, ⟨mp, mts⟩, mo, ⟨ml1, ml2⟩, ⟨mr1, mr2⟩⟩ s2] w (SayEq (⟨lk, ⟨lp, lts⟩, lo, ⟨ll1, ll2⟩, ⟨lr1, lr2⟩⟩ : Lm) ⟨mk, ⟨mp, mts⟩, mo, ⟨ml1, ml2⟩, ⟨mr1, mr2⟩⟩ w) := by
  unfold lmV
  simp only
  have HT1 := Lib.hid h1; have HT2 := Lib.hid h2
  obtain ⟨sa1, sc1, rfl, _⟩ := h1
  obtain ⟨sa2, sc2, rfl, _⟩ := h2
  have hm0 : Mod (fun _ => False) w ((w.alloc (.cells #[.int .i64 lk, .string lp, .slice sa1 lts.length sc1, .int .i64 lo, .int .i64 ll1, .string ll2, .int .i64 lr1, .string lr2] 44)).alloc (.cells #[.int .i64 mk, .string mp, .slice sa2 mts.length sc2, .int .i64 mo, .int .i64 ml1, .string ml2, .int .i64 mr1, .string mr2] 44)) := ((Mod.refl _ w).alloc _).alloc _
  have HA := Lib.hid (sameAtom_any lp mp lts mts _ _ _ (HT1.out.mod0 hm0) (HT2.out.mod0 hm0) hn hn2)
  have HM := Lib.hid hm0; clear hm0
  go_enter Tryd.func58, Tryd.ntmps58
  by_cases e0 : lk = mk
  rotate_left
  · have e0' : (lk == mk) = false := by simpa using e0
    go_wp2_with fail
    go_ret
    exact ⟨false, rfl, ⟨fun h => (by cases h), fun h => absurd (by cases h; rfl) e0⟩, HM.out⟩
  subst e0
  by_cases e1 : lo = mo
  rotate_left
  · have e1' : (lo == mo) = false := by simpa using e1
    go_wp2_with fail
    go_ret
    exact ⟨false, rfl, ⟨fun h => (by cases h), fun h => absurd (by cases h; rfl) e1⟩, HM.out⟩
  subst e1
  by_cases e2 : (⟨ll1, ll2⟩ : Tm) = ⟨ml1, ml2⟩
  rotate_left
  · have e2' := tm_eqd e2
    go_wp2_with fail
    go_ret
    exact ⟨false, rfl, ⟨fun h => (by cases h), fun h => absurd (by cases h; rfl) e2⟩, HM.out⟩
  cases e2
  have hq1 := tm_eqs ll1 ll2
  by_cases e3 : (⟨lr1, lr2⟩ : Tm) = ⟨mr1, mr2⟩
  rotate_left
  · have e3' := tm_eqd e3
    go_wp2_with fail
    go_ret
    exact ⟨false, rfl, ⟨fun h => (by cases h), fun h => absurd (by cases h; rfl) e3⟩, HM.out⟩
  cases e3
  have hq2 := tm_eqs lr1 lr2
  go_wp2_with fail
  refine HA.out.mono ?_
  rintro e w2 ⟨t, rfl, ht, hM2⟩
  have HT := Lib.hid ht; have HM2 := Lib.hid hM2
  clear ht hM2 HA
  go_wp2_with fail
  go_ret
  exact ⟨t, rfl, ⟨fun h => by have := HT.out.1 h; cases this; rfl, fun h => HT.out.2 (by cases h; rfl)⟩, HM.out.trans HM2.out⟩

theorem EqualLs_any (ls ms : List Lm) (b1 b2 : Value) (w : World) (g1 : LsAt w b1 ls) (g2 : LsAt w b2 ms)
    (hn2 : ls.length < 2 ^ 30) (hm2 : ms.length < 2 ^ 30) (hn3 : ∀ l ∈ ls, l.atom.terms.length < 2 ^ 30) (hm3 : ∀ l ∈ ms, l.atom.terms.length < 2 ^ 30) :
    Calls Tryd.prog 57 #[b1, b2, .func (.func 58) #[] #[]] w (SayEq ls ms w) := by
  obtain ⟨d1, k1, xs1, rfl, hx1, hr1, ht1⟩ := g1
  obtain ⟨d2, k2, xs2, rfl, hx2, hr2, ht2⟩ := g2
  have HX1 := Lib.hid hx1; have HR1 := Lib.hid hr1; have HXT1 := Lib.hid ht1
  have HX2 := Lib.hid hx2; have HR2 := Lib.hid hr2; have HXT2 := Lib.hid ht2
  have HN3 := Lib.hid hn3; have HM3 := Lib.hid hm3
  clear hx1 hr1 ht1 hx2 hr2 ht2 hn3 hm3
  go_enter Tryd.func57, Tryd.ntmps57
  by_cases hl : ls.length = ms.length
  rotate_left
  · have hlb := int_bne hl
    go_wp2_with fail
    go_ret
    exact ⟨false, rfl, ⟨fun h => (by cases h), fun h => absurd (by rw [h]) hl⟩, Mod.refl _ _⟩
  have hl' : ms.length = ls.length := hl.symm
  rw [hl']
  have HL := Lib.hid hl
  clear hl hl'
  go_wp2_with fail
  go_loopw [17] (fun iv wr => ∃ k : Nat, iv = .int .i64 k ∧ k ≤ ls.length ∧ Hid (ls.take k = ms.take k) ∧ Hid (Mod (fun _ => False) w wr)) (fun iv _ => ls.length - (intOf iv).toNat)
  case atStart => exact ⟨0, rfl, Nat.zero_le _, Lib.hid rfl, Lib.hid (Mod.refl _ w)⟩
  case round =>
    obtain ⟨k, rfl, hk, hTk, hM⟩ := hrel
    by_cases hlt : k < ls.length
    · have hlt2 : k < ms.length := by have := HL.out; omega
      obtain ⟨sk1, hx1, hmem1⟩ := xs_get HX1.out hlt
      obtain ⟨sk2, hx2, hmem2⟩ := xs_get HX2.out hlt2
      obtain ⟨b1, o1, rfl, x0, x1, x2, x3, x4, x5, x6, x7⟩ := rd_cell8 (HR1.out.mod hM.out (fun _ _ => id)) hx1
      obtain ⟨b2, o2, rfl, y0, y1, y2, y3, y4, y5, y6, y7⟩ := rd_cell8 (HR2.out.mod hM.out (fun _ _ => id)) hx2
      have htn := HN3.out _ (List.getElem_mem hlt)
      have htm := HM3.out _ (List.getElem_mem hlt2)
      have HTS1 := Lib.hid (HXT1.out _ hmem1)
      have HTS2 := Lib.hid (HXT2.out _ hmem2)
      obtain ⟨sa1, sc1, hsk1, _⟩ := HXT1.out _ hmem1
      obtain ⟨sa2, sc2, hsk2, _⟩ := HXT2.out _ hmem2
      simp only at hsk1 hsk2
      subst hsk1 hsk2
      clear hx1 hx2 hmem1 hmem2
      have HN := Lib.hid (fun h => take_ne hlt hlt2 h)
      have HMo := Lib.hid (fun h => take_more hlt hlt2 hTk.out h)
      generalize ls[k] = t at *
      generalize ms[k] = u at *
      clear hlt2
      obtain ⟨lk, ⟨lp, lts⟩, lo, ⟨ll1, ll2⟩, ⟨lr1, lr2⟩⟩ := t
      obtain ⟨mk, ⟨mp, mts⟩, mo, ⟨ml1, ml2⟩, ⟨mr1, mr2⟩⟩ := u
      simp only at x0 x1 x2 x3 x4 x5 x6 x7 y0 y1 y2 y3 y4 y5 y6 y7 HTS1 HTS2 htn htm ⊢
      have hmb : Mod (fun _ => False) wr ((wr.alloc (.cells #[.int .i64 lk, .string lp, .slice sa1 lts.length sc1, .int .i64 lo, .int .i64 ll1, .string ll2, .int .i64 lr1, .string lr2] 44)).alloc (.cells #[.int .i64 mk, .string mp, .slice sa2 mts.length sc2, .int .i64 mo, .int .i64 ml1, .string ml2, .int .i64 mr1, .string mr2] 44)) := ((Mod.refl _ wr).alloc _).alloc _
      have hmw := hM.out.trans hmb
      have HA := Lib.hid (sameLit_any lk lo ll1 lr1 mk mo ml1 mr1 lp ll2 lr2 mp ml2 mr2 lts mts _ _ _ (HTS1.out.mod0 hmw) (HTS2.out.mod0 hmw) htn htm)
      unfold lmV at HA
      simp only at HA
      have HMW := Lib.hid hmw
      have hmb1 : Mod (fun _ => False) wr (wr.alloc (.cells #[.int .i64 lk, .string lp, .slice sa1 lts.length sc1, .int .i64 lo, .int .i64 ll1, .string ll2, .int .i64 lr1, .string lr2] 44)) := (Mod.refl _ wr).alloc _
      have z0 := hmb1.cell y0 id
      have z1 := hmb1.cell y1 id
      have z2 := hmb1.cell y2 id
      have z3 := hmb1.cell y3 id
      have z4 := hmb1.cell y4 id
      have z5 := hmb1.cell y5 id
      have z6 := hmb1.cell y6 id
      have z7 := hmb1.cell y7 id
      clear hmb hmw hmb1 y0 y1 y2 y3 y4 y5 y6 y7
      go_wp2_with fail
      refine HA.out.mono ?_
      rintro e w2 ⟨t, rfl, ht, hM2⟩
      have HT := Lib.hid ht; have HM2 := Lib.hid (HMW.out.trans hM2)
      clear ht hM2 HA x0 x1 x2 x3 x4 x5 x6 x7 z0 z1 z2 z3 z4 z5 z6 z7 HMW
      by_cases htt : t = true
      rotate_left
      · have htf : t = false := by simpa using htt
        subst htf
        go_wp2_with fail
        go_ret
        exact ⟨false, rfl, ⟨fun h => (by cases h), fun h => absurd h (HN.out (fun h => absurd (HT.out.2 h) (by simp)))⟩, HM2.out⟩
      subst htt
      have hea := Lib.hid (HMo.out (HT.out.1 rfl))
      go_wp2_with fail
      go_roundw
      case rel => exact ⟨k + 1, by go_num, hlt, hea, HM2⟩
      case measure => simp [intOf]; omega
    · obtain rfl : k = ls.length := by omega
      go_wp2_with fail
      go_ret
      exact ⟨true, rfl, ⟨fun _ => take_all rfl HL.out.symm hTk.out, fun _ => rfl⟩, hM.out⟩
theorem nmLs_few : ∀ (ns : List ByteArray) (ls : List Lm), (∀ l ∈ ls, l.atom.terms.length < 2 ^ 30) → ∀ l ∈ (nmLs ns ls).1, l.atom.terms.length < 2 ^ 30
  | _, [], _, l, h => by cases h
  | ns, x :: ls, hx, l, h => by
    rcases List.mem_cons.1 h with rfl | h
    · unfold nmLm
      split
      · exact Nat.pos_of_ne_zero (by decide)
      · show (nmTs ns x.atom.terms).1.length < _
        rw [nmTs_len]; exact hx _ (List.mem_cons_self ..)
    · exact nmLs_few _ ls (fun l hl => hx l (List.mem_cons_of_mem _ hl)) l h
theorem nmR0_few {r : Rm} (h : SmallRm r) : (nmR0 r).head.terms.length < 2 ^ 30 ∧ (nmR0 r).body.length < 2 ^ 30 ∧ ∀ l ∈ (nmR0 r).body, l.atom.terms.length < 2 ^ 30 := by
  unfold nmR0
  split
  · unfold nmRm
    refine ⟨by simp only; rw [nmTs_len]; exact h.1.2.1, by simp only; rw [nmLs_len]; exact h.2.1, nmLs_few _ _ (fun l hl => (h.2.2 l hl).1.2.1)⟩
  · exact ⟨Nat.pos_of_ne_zero (by decide), Nat.pos_of_ne_zero (by decide), fun l h => by cases h⟩
/-- alike: both may be, and their normal forms are the same -/
def Al (r q : Rm) : Prop := mayRm r = 0 ∧ mayRm q = 0 ∧ nmR0 r = nmR0 q
def SayAl (r q : Rm) (w : World) (e : Ending) (w' : World) : Prop := ∃ t : Bool, e = .returned (.bool t) ∧ (t = true ↔ Al r q) ∧ Mod (fun _ => False) w w'

theorem Alike_any (r q : Rm) (s1 b1 s2 b2 : Value) (w : World) (hs1 : SmallRm r) (hs2 : SmallRm q) (h1 : TsAt w s1 r.head.terms) (g1 : LsAt w b1 r.body) (h2 : TsAt w s2 q.head.terms) (g2 : LsAt w b2 q.body) (hpw : Pow w) :
    Calls Tryd.prog 31 #[rmV r s1 b1, rmV q s2 b2] w (SayAl r q w) := by
  have hm0 : Mod (fun _ => False) w ((w.alloc (.cells #[.string r.head.pred, s1, b1] 38)).alloc (.cells #[.string q.head.pred, s2, b2] 38)) := ((Mod.refl _ w).alloc _).alloc _
  have HN1 := Lib.hid (fun wx (m : Mod (fun _ => False) w wx) => Normal_any r s1 b1 wx hs1 (h1.mod0 m) (g1.mod0 m) (hpw.mod0 m))
  have HN2 := Lib.hid (fun wx (m : Mod (fun _ => False) w wx) => Normal_any q s2 b2 wx hs2 (h2.mod0 m) (g2.mod0 m) (hpw.mod0 m))
  have HF1 := Lib.hid (nmR0_few hs1); have HF2 := Lib.hid (nmR0_few hs2)
  obtain ⟨a1, c1, rfl, _⟩ := h1
  obtain ⟨a2, c2, rfl, _⟩ := h2
  obtain ⟨d1, k1, xs1, rfl, _⟩ := g1
  obtain ⟨d2, k2, xs2, rfl, _⟩ := g2
  unfold rmV at HN1 HN2 ⊢
  have hb1 : ((w.alloc (.cells #[.string r.head.pred, .slice a1 r.head.terms.length c1, .slice d1 r.body.length k1] 38)).alloc (.cells #[.string q.head.pred, .slice a2 q.head.terms.length c2, .slice d2 q.body.length k2] 38)).heap[w.heap.size + 1]? = some (.cells #[.string q.head.pred, .slice a2 q.head.terms.length c2, .slice d2 q.body.length k2] 38 (0, 0)) := heap_two2 w _ _
  have HB := Lib.hid (And.intro hm0 hb1)
  have HC := Lib.hid (HN1.out _ hm0)
  have HSL := Lib.hid (And.intro hs1 hs2)
  clear hm0 hb1 HN1 hs1 hs2 hpw
  go_enter Tryd.func31, Tryd.ntmps31
  go_wp2_with fail
  refine HC.out.mono ?_
  obtain ⟨hm0, hb1⟩ := HB.out
  rintro e w1 ⟨s1', b1', rfl, hR1, hM1⟩
  have HR1 := Lib.hid hR1
  obtain ⟨⟨e1, f1, rfl, _⟩, g1, j1, ys1, rfl, _⟩ := hR1
  have k1 := hM1.at hb1 id
  have hM01 := hm0.trans hM1
  clear hm0 hb1 hM1 HB HC
  unfold rmV
  obtain ⟨n1, hn1⟩ : ∃ n, n = nmR0 r := ⟨_, rfl⟩
  rw [← hn1] at HR1 HF1 ⊢
  have HE1 := Lib.hid hn1; clear hn1
  obtain ⟨m1, hm1⟩ : ∃ m, m = mayRm r := ⟨_, rfl⟩
  rw [← hm1]
  have HM1 := Lib.hid hm1; clear hm1
  have hmb : Mod (fun _ => False) w1 (w1.alloc (.cells #[.string n1.head.pred, .slice e1 n1.head.terms.length f1, .slice g1 n1.body.length j1] 38)) := (Mod.refl _ w1).alloc _
  have k1' := hmb.at k1 id
  have x0 := cell_at (j := 0) k1 rfl
  have x1 := cell_at (j := 1) k1 rfl
  have x2 := cell_at (j := 2) k1 rfl
  have z0 := cell_at (j := 0) k1' rfl
  have z1 := cell_at (j := 1) k1' rfl
  have z2 := cell_at (j := 2) k1' rfl
  have hz1 : (w1.alloc (.cells #[.string n1.head.pred, .slice e1 n1.head.terms.length f1, .slice g1 n1.body.length j1] 38)).heap[w1.heap.size]? = some (.cells #[.string n1.head.pred, .slice e1 n1.head.terms.length f1, .slice g1 n1.body.length j1] 38 (0, 0)) := heap_alloc_new w1 _
  have HB := Lib.hid (And.intro (hM01.trans hmb) hz1)
  have HC := Lib.hid (HN2.out _ (hM01.trans hmb))
  have HMB := Lib.hid hmb
  clear k1 k1' hM01 hmb hz1 HN2
  go_wp2_with fail
  refine HC.out.mono ?_
  clear x0 x1 x2 z0 z1 z2
  obtain ⟨hm0, hb1⟩ := HB.out
  rintro e w2 ⟨s2', b2', rfl, hR2, hM2⟩
  have HR2 := Lib.hid hR2
  obtain ⟨⟨e2, f2, rfl, _⟩, g2, j2, ys2, rfl, _⟩ := hR2
  unfold rmV
  obtain ⟨n2, hn2⟩ : ∃ n, n = nmR0 q := ⟨_, rfl⟩
  rw [← hn2] at HR2 HF2 ⊢
  have HE2 := Lib.hid hn2; clear hn2
  obtain ⟨m2, hm2⟩ : ∃ m, m = mayRm q := ⟨_, rfl⟩
  rw [← hm2]
  have HM2 := Lib.hid hm2; clear hm2
  have hmb : Mod (fun _ => False) w2 (w2.alloc (.cells #[.string n2.head.pred, .slice e2 n2.head.terms.length f2, .slice g2 n2.body.length j2] 38)) := (Mod.refl _ w2).alloc _
  have k1 := hmb.at (hM2.at hb1 id) id
  have k2 : (w2.alloc (.cells #[.string n2.head.pred, .slice e2 n2.head.terms.length f2, .slice g2 n2.body.length j2] 38)).heap[w2.heap.size]? = some (.cells #[.string n2.head.pred, .slice e2 n2.head.terms.length f2, .slice g2 n2.body.length j2] 38 (0, 0)) := heap_alloc_new w2 _
  have hMall := (hm0.trans hM2).trans hmb
  have hT1 := (HR1.out.1.at.mod0 HMB.out).mod0 (hM2.trans hmb)
  have hL1 := (HR1.out.2.at.mod0 HMB.out).mod0 (hM2.trans hmb)
  have hT2 := HR2.out.1.at.mod0 hmb
  have hL2 := HR2.out.2.at.mod0 hmb
  have x0 := cell_at (j := 0) k1 rfl
  have x1 := cell_at (j := 1) k1 rfl
  have x2 := cell_at (j := 2) k1 rfl
  have z0 := cell_at (j := 0) k2 rfl
  have z1 := cell_at (j := 1) k2 rfl
  have z2 := cell_at (j := 2) k2 rfl
  have HALL := Lib.hid hMall
  have HA := Lib.hid (sameAtom_any n1.head.pred n2.head.pred n1.head.terms n2.head.terms _ _ _ hT1 hT2 HF1.out.1 HF2.out.1)
  have HA2 := Lib.hid (fun wx (m : Mod (fun _ => False) (w2.alloc (.cells #[.string n2.head.pred, .slice e2 n2.head.terms.length f2, .slice g2 n2.body.length j2] 38)) wx) => EqualLs_any n1.body n2.body _ _ wx (hL1.mod0 m) (hL2.mod0 m) HF1.out.2.1 HF2.out.2.1 HF1.out.2.2 HF2.out.2.2)
  have KK := Lib.hid (And.intro k1 k2)
  clear k1 k2 hMall hT1 hL1 hT2 hL2 hmb hm0 hb1 hM2 HMB HB HC HR1 HR2
  by_cases h1 : m1 = 0
  rotate_left
  · have h1b : (m1 == 0) = false := by simpa using h1
    go_wp2_with fail
    go_ret
    exact ⟨false, rfl, ⟨fun h => (by cases h), fun h => absurd h.1 (by rw [← HM1.out]; exact h1)⟩, HALL.out⟩
  subst h1
  by_cases h2 : m2 = 0
  rotate_left
  · have h2b : (m2 == 0) = false := by simpa using h2
    go_wp2_with fail
    go_ret
    exact ⟨false, rfl, ⟨fun h => (by cases h), fun h => absurd h.2.1 (by rw [← HM2.out]; exact h2)⟩, HALL.out⟩
  subst h2
  go_wp2_with fail
  refine HA.out.mono ?_
  rintro e w3 ⟨t, rfl, ht, hM3⟩
  have HT := Lib.hid ht; have HM3 := Lib.hid hM3
  clear x0 x1 x2 z0 z1 z2
  have x2 := cell_at (j := 2) (hM3.at KK.out.1 id) rfl
  have z2 := cell_at (j := 2) (hM3.at KK.out.2 id) rfl
  have HC2 := Lib.hid (HA2.out w3 hM3)
  clear ht hM3 HA HA2
  by_cases htt : t = true
  rotate_left
  · have htf : t = false := by simpa using htt
    subst htf
    go_wp2_with fail
    go_ret
    exact ⟨false, rfl, ⟨fun h => (by cases h), fun h => absurd (HT.out.2 (by rw [HE1.out, HE2.out, h.2.2])) (by simp)⟩, HALL.out.trans HM3.out⟩
  subst htt
  go_wp2_with fail
  refine HC2.out.mono ?_
  rintro e w4 ⟨t, rfl, ht, hM4⟩
  have HT4 := Lib.hid ht; have HM4 := Lib.hid hM4
  clear ht hM4 x2 z2
  go_wp2_with fail
  go_ret
  refine ⟨t, rfl, ⟨fun h => ⟨HM1.out.symm, HM2.out.symm, ?_⟩, fun h => HT4.out.2 (by rw [HE1.out, HE2.out, h.2.2])⟩, (HALL.out.trans HM3.out).trans HM4.out⟩
  rw [← HE1.out, ← HE2.out]
  have h1 := HT.out.1 (by trivial)
  have h2 := HT4.out.1 h
  obtain ⟨⟨p1, t1⟩, l1⟩ := n1
  obtain ⟨⟨p2, t2⟩, l2⟩ := n2
  simp only at h1 h2
  rw [h1, h2]
end Go.Proofs.YtphgglnkdfndiaaDoor
