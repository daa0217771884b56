/-
  PrintRenamed, walked.
-/
import Derived.Test.YtgplagdehfhffaaDoorRenW3
import Derived.Test.YtgplagdehfhffaaDoorKnow9
import Derived.Test.YtgplagdehfhffaaDoorAlike
namespace Go.Proofs.YtgplagdehfhffaaDoor
open Go Go.RowKit Go.Mine
set_option linter.unusedVariables false
set_option maxHeartbeats 8000000
set_option maxRecDepth 100000

theorem RnI.ls {w : World} {lo gb cb : Nat} {sh : Value} {hts : List Tm} {L : List (Lm × Value)} {ls : List Lm} (h : RnI w lo gb cb ls.length sh hts L) (hx : L.map Prod.fst = ls) : LsAt w (.slice (some ⟨gb, 0, none⟩) ls.length cb) ls := by
  refine ⟨some ⟨gb, 0, none⟩, cb, L, rfl, hx, ?_, fun x hx => (h.each x hx).at⟩
  have h1 := h.own.rd.take (L.length * 8)
  rw [lmsC_append, List.take_left' (lmsC_length L)] at h1
  exact h1
/-- a rule of one's own -/
theorem own9 (r : Rm) (s b : Value) (w : World) (ht : TsAt w s r.head.terms) (hl : LsAt w b r.body) (hs : SmallRm r) :
    Calls Tryd.prog 43 #[rmV r s b] w fun e w' => ∃ gh ch gb cb, e = .returned (rmV r (.slice (some ⟨gh, 0, none⟩) r.head.terms.length ch) (.slice (some ⟨gb, 0, none⟩) r.body.length cb)) ∧
      TsAt w' (.slice (some ⟨gh, 0, none⟩) r.head.terms.length ch) r.head.terms ∧ LsAt w' (.slice (some ⟨gb, 0, none⟩) r.body.length cb) r.body ∧ Mod (fun _ => False) w w' := by
  refine (own_any r s b w ht hl hs.1.2.1 hs.2.1 (fun l hl => (hs.2.2 l hl).1.2.1)).mono ?_
  rintro e w' ⟨gh, ch, gb, cb, xs, rfl, hO, hM⟩
  have hI := RnI.ofOwn (lo := 0) hO (fun _ _ => Nat.zero_le _)
  refine ⟨gh, ch, gb, cb, rfl, hO.head.at, hI.ls ?_, hM⟩
  rw [← hO.hx, xsV, List.map_map]; rfl
theorem few_names {r : Rm} (h : mayRm r = 0) : (namesR r).length < 90000 := by
  obtain ⟨h1, h2, h3⟩ := may_rule h
  have e1 := nmTs_le [] r.head.terms
  have e2 := nmLs_le (nmTs [] r.head.terms).2 r.body h3
  have e3 := (okAm h1).few
  unfold namesR
  simp at e1
  omega
theorem OkTm.sm {t : Tm} (h : OkTm t) : t.text.size < 2 ^ 30 := by have := h.len; omega
theorem small_of_may {r : Rm} (h : mayRm r = 0) : SmallRm r := by
  obtain ⟨h1, h2, h3⟩ := may_rule h
  have o1 := okAm h1
  refine ⟨⟨by have := o1.plen; omega, by have := o1.few; omega, fun t ht => (o1.all t ht).sm⟩, by omega, fun l hl => ?_⟩
  rcases may_lit (h3 l hl) with ⟨_, _, hl0, hr0, _, hb, hm⟩ | ⟨_, p1, p2, hl0, hr0⟩
  · have o2 := okAm hm
    have e : emptyB.size = 0 := rfl
    refine ⟨⟨by have := o2.plen; omega, by have := o2.few; omega, fun t ht => (o2.all t ht).sm⟩, ?_, ?_⟩
    · rw [hb.2.1.2, e]; decide
    · rw [hb.2.2.2, e]; decide
  · have e : emptyB.size = 0 := rfl
    refine ⟨⟨by rw [p1, e]; decide, by rw [p2]; simp, fun t ht => by rw [p2] at ht; cases ht⟩, hl0.sm, hr0.sm⟩
theorem rnG_sm {t : Tm} (h : t.text.size ≤ 4096) : (rnG nameB t).text.size < 2 ^ 30 := by
  unfold rnG
  split
  · show (nameL t.text.data.toList).toArray.size < 2 ^ 30
    rw [List.size_toArray, nameL_len]
    have : t.text.data.toList.length = t.text.size := rfl
    omega
  · omega
theorem small_rn {r : Rm} (h : mayRm r = 0) : SmallRm (rnRm nameB r) := by
  obtain ⟨h1, h2, h3⟩ := may_rule h
  have o1 := okAm h1
  refine ⟨⟨by have := o1.plen; show r.head.pred.size < _; omega, by have := o1.few; show (r.head.terms.map _).length < _; rw [List.length_map]; omega, fun t ht => ?_⟩, by show (r.body.map _).length < _; rw [List.length_map]; omega, fun l hl => ?_⟩
  · obtain ⟨x, hx, rfl⟩ := List.mem_map.1 ht
    exact rnG_sm (o1.all x hx).len
  · obtain ⟨x, hx, rfl⟩ := List.mem_map.1 hl
    have e : emptyB.size = 0 := rfl
    rcases may_lit (h3 x hx) with ⟨_, _, hl0, hr0, _, hb, hm⟩ | ⟨_, p1, p2, hl0, hr0⟩
    · have o2 := okAm hm
      refine ⟨⟨by have := o2.plen; show x.atom.pred.size < _; omega, by have := o2.few; show (x.atom.terms.map _).length < _; rw [List.length_map]; omega, fun t ht => ?_⟩, rnG_sm (by rw [hb.2.1.2, e]; decide), rnG_sm (by rw [hb.2.2.2, e]; decide)⟩
      obtain ⟨y, hy, rfl⟩ := List.mem_map.1 ht
      exact rnG_sm (o2.all y hy).len
    · refine ⟨⟨by show x.atom.pred.size < _; rw [p1, e]; decide, by show (x.atom.terms.map _).length < _; rw [p2]; simp, fun t ht => ?_⟩, rnG_sm hl0.len, rnG_sm hr0.len⟩
      have ht' : t ∈ x.atom.terms.map (rnG nameB) := ht
      rw [p2] at ht'; cases ht'
theorem bx3 {w W : World} {B : Nat} {p : ByteArray} {a b : Value} (h : w.heap[B]? = some (.cells #[.string p, a, b] 40 (0, 0))) (m : Mod (fun _ => False) w W) :
    W.cell? ⟨B, 0, none⟩ = some (.string p) ∧ W.cell? ⟨B, 1, none⟩ = some (a) ∧ W.cell? ⟨B, 2, none⟩ = some (b) :=
  ⟨cell_at (m.at h id) rfl, cell_at (m.at h id) rfl, cell_at (m.at h id) rfl⟩
/-- rules in boxes, and what is known of them -/
structure Bx (u : World) (r : Rm) (B : Nat) (a b : Value) : Prop where
  box : u.heap[B]? = some (.cells #[.string r.head.pred, a, b] 40 (0, 0))
  ts : TsAt u a r.head.terms
  ls : LsAt u b r.body
  sm : SmallRm r
theorem Bx.cells {u W : World} {r : Rm} {B : Nat} {a b : Value} (h : Bx u r B a b) (m : Mod (fun _ => False) u W) : W.cell? ⟨B, 0, none⟩ = some (.string r.head.pred) ∧ W.cell? ⟨B, 1, none⟩ = some (a) ∧ W.cell? ⟨B, 2, none⟩ = some (b) := bx3 h.box m
theorem Bx.own {u W : World} {r : Rm} {B : Nat} {a b : Value} (h : Bx u r B a b) (m : Mod (fun _ => False) u W) :
    Calls Tryd.prog 43 #[.agg #[.string r.head.pred, a, b]] W fun e w' => ∃ gh ch gb cb, e = .returned (.agg #[.string r.head.pred, .slice (some ⟨gh, 0, none⟩) r.head.terms.length ch, .slice (some ⟨gb, 0, none⟩) r.body.length cb]) ∧
      TsAt w' (.slice (some ⟨gh, 0, none⟩) r.head.terms.length ch) r.head.terms ∧ LsAt w' (.slice (some ⟨gb, 0, none⟩) r.body.length cb) r.body ∧ Mod (fun _ => False) W w' :=
  own9 r a b W (h.ts.mod0 m) (h.ls.mod0 m) h.sm
theorem Bx.mod {u W : World} {r : Rm} {B : Nat} {a b : Value} (h : Bx u r B a b) (m : Mod (fun _ => False) u W) : Bx W r B a b := ⟨m.at h.box id, h.ts.mod0 m, h.ls.mod0 m, h.sm⟩
theorem alike9 {r q : Rm} {a b c d : Value} {W : World} (hr : SmallRm r) (hq : SmallRm q) (h1 : TsAt W a r.head.terms) (h2 : LsAt W b r.body) (h3 : TsAt W c q.head.terms) (h4 : LsAt W d q.body) (hp : Pow W) :
    Calls Tryd.prog 45 #[.agg #[.string r.head.pred, a, b], .agg #[.string q.head.pred, c, d]] W (SayAl r q W) := Alike_any r q a b c d W hr hq h1 h2 h3 h4 hp
theorem normal9 {r : Rm} {a b : Value} {W : World} (hr : SmallRm r) (h1 : TsAt W a r.head.terms) (h2 : LsAt W b r.body) (hp : Pow W) :
    Calls Tryd.prog 42 #[.agg #[.string r.head.pred, a, b]] W fun e w' => ∃ na nc nb nd, e = .returned (.tuple #[.agg #[.string (nmR0 r).head.pred, .slice na (nmR0 r).head.terms.length nc, .slice nb (nmR0 r).body.length nd], .int .i64 (mayRm r)]) ∧
      TsAt w' (.slice na (nmR0 r).head.terms.length nc) (nmR0 r).head.terms ∧ LsAt w' (.slice nb (nmR0 r).body.length nd) (nmR0 r).body ∧ Mod (fun _ => False) W w' := by
  refine (Normal_any r a b W hr h1 h2 hp).mono ?_
  rintro e w' ⟨s', b', rfl, hF, hM⟩
  have ht := hF.1.at
  have hl := hF.2.at
  obtain ⟨na, nc, rfl, _⟩ := id ht
  obtain ⟨nb, nd, _, rfl, _⟩ := id hl
  exact ⟨na, nc, nb, nd, rfl, ht, hl, hM⟩
theorem same9 {r : Rm} {a b c d : Value} {W : World} (hr : SmallRm r) (h1 : TsAt W a r.head.terms) (h2 : LsAt W b r.body) (h3 : TsAt W c r.head.terms) (h4 : LsAt W d r.body) :
    Calls Tryd.prog 46 #[.agg #[.string r.head.pred, a, b], .agg #[.string r.head.pred, c, d]] W fun e w' => e = .returned (.bool true) ∧ Mod (fun _ => False) W w' := by
  refine (Same_any r r a c b d W h1 h3 h2 h4 hr.1.2.1 hr.1.2.1 hr.2.1 hr.2.1 (fun l hl => (hr.2.2 l hl).1.2.1) (fun l hl => (hr.2.2 l hl).1.2.1)).mono ?_
  rintro e w' ⟨t, rfl, ht, hM⟩
  rw [ht.2 rfl]
  exact ⟨rfl, hM⟩
theorem alikeT {r q : Rm} {a b c d : Value} {W : World} (hr : SmallRm r) (hq : SmallRm q) (h1 : TsAt W a r.head.terms) (h2 : LsAt W b r.body) (h3 : TsAt W c q.head.terms) (h4 : LsAt W d q.body) (hp : Pow W) (hal : Al r q) :
    Calls Tryd.prog 45 #[.agg #[.string r.head.pred, a, b], .agg #[.string q.head.pred, c, d]] W fun e w' => e = .returned (.bool true) ∧ Mod (fun _ => False) W w' := by
  refine (alike9 hr hq h1 h2 h3 h4 hp).mono ?_
  rintro e w' ⟨t, rfl, ht, hM⟩
  rw [ht.2 hal]
  exact ⟨rfl, hM⟩
theorem Al.symm' {r q : Rm} (h : Al r q) : Al q r := ⟨h.2.1, h.1, h.2.2.symm⟩
def BXC (W : World) (r : Rm) (B : Nat) (a b : Value) : Prop := W.cell? ⟨B, 0, none⟩ = some (.string r.head.pred) ∧ W.cell? ⟨B, 1, none⟩ = some (a) ∧ W.cell? ⟨B, 2, none⟩ = some (b)
theorem printRenamed_walk (r q t : Rm) (s1 b1 s2 b2 s3 b3 : Value) (w : World) (hsr : SmallRm r) (hsq : SmallRm q) (hst : SmallRm t) (ht1 : TsAt w s1 r.head.terms) (hl1 : LsAt w b1 r.body) (ht2 : TsAt w s2 q.head.terms) (hl2 : LsAt w b2 q.body) (ht3 : TsAt w s3 t.head.terms) (hl3 : LsAt w b3 t.body) (hp : Pow w) :
    Calls Tryd.prog 9 #[rmV r s1 b1, rmV q s2 b2, rmV t s3 b3] w fun e w' => e = .returned (.bool true) ∧ Mod (fun _ => False) w w' := by
  unfold rmV
  obtain ⟨u0, hu0⟩ : ∃ u, u = ((w.alloc (.cells #[.string r.head.pred, s1, b1] 40)).alloc (.cells #[.string q.head.pred, s2, b2] 40)).alloc (.cells #[.string t.head.pred, s3, b3] 40) := ⟨_, rfl⟩
  have hm0 : Mod (fun _ => False) w u0 := by rw [hu0]; exact (((Mod.refl _ w).alloc _).alloc _).alloc _
  have B1 : Hid (Bx u0 r w.heap.size s1 b1) := Lib.hid ⟨by rw [hu0]; exact ((Mod.refl (fun _ => False) _).alloc _).at (heap_two1 w _ _) id, ht1.mod0 hm0, hl1.mod0 hm0, hsr⟩
  have B2 : Hid (Bx u0 q (w.heap.size + 1) s2 b2) := Lib.hid ⟨by rw [hu0]; exact ((Mod.refl (fun _ => False) _).alloc _).at (heap_two2 w _ _) id, ht2.mod0 hm0, hl2.mod0 hm0, hsq⟩
  have B3 : Hid (Bx u0 t (w.heap.size + 1 + 1) s3 b3) := Lib.hid ⟨by
    have h := heap_alloc_new ((w.alloc (.cells #[.string r.head.pred, s1, b1] 40)).alloc (.cells #[.string q.head.pred, s2, b2] 40)) (.cells #[.string t.head.pred, s3, b3] 40)
    rw [World.size_alloc, World.size_alloc] at h
    rw [hu0]; exact h, ht3.mod0 hm0, hl3.mod0 hm0, hst⟩
  have HM0 := Lib.hid hm0
  have HP := Lib.hid (hp.mod0 hm0)
  have HU := Lib.hid hu0
  obtain ⟨ra, rc, rfl, _⟩ := ht1
  obtain ⟨rb, rd, _, rfl, _⟩ := hl1
  obtain ⟨qa, qc, rfl, _⟩ := ht2
  obtain ⟨qb, qd, _, rfl, _⟩ := hl2
  obtain ⟨ta, tc, rfl, _⟩ := ht3
  obtain ⟨tb, td, _, rfl, _⟩ := hl3
  clear hm0 hp hu0 hsr hsq hst
  go_enter Tryd.func9, Tryd.ntmps9
  go_wp2_with fail
  rw [← HU.out]
  clear HU
  refine (know9_any u0 HP.out).mono ?_
  rintro e w1 ⟨rfl, hM1⟩
  have HM1 := Lib.hid hM1
  obtain ⟨c0, c1, c2⟩ := B1.out.cells HM1.out
  clear hM1
  go_wp2_with fail
  refine (B1.out.own HM1.out).mono ?_
  rintro e w2 ⟨g1, h1, g2, h2, rfl, hT, hL, hM2⟩
  have HN := Lib.hid (normal9 B1.out.sm hT hL (HP.out.mod0 (HM1.out.trans hM2)))
  have HM2 := Lib.hid (HM1.out.trans hM2)
  clear hT hL hM2 c0 c1 c2 HM1
  go_wp2_with fail
  refine HN.out.mono ?_
  rintro e w3 ⟨na, nc, nb, nd, rfl, hT, hL, hM3⟩
  have hT3 := hT
  obtain ⟨u7, hu7⟩ : ∃ u, u = w3.alloc (.cells #[.string (nmR0 r).head.pred, .slice na (nmR0 r).head.terms.length nc, .slice nb (nmR0 r).body.length nd] 40) := ⟨_, rfl⟩
  have hm7 : Mod (fun _ => False) w3 u7 := by rw [hu7]; exact (Mod.refl _ w3).alloc _
  have hb7 : u7.heap[w3.heap.size]? = some (.cells #[.string (nmR0 r).head.pred, .slice na (nmR0 r).head.terms.length nc, .slice nb (nmR0 r).body.length nd] 40 (0, 0)) := by rw [hu7]; exact heap_alloc_new w3 _
  have hT7 := hT.mod0 hm7
  have hL7 := hL.mod0 hm7
  have HM7 := Lib.hid (HM2.out.trans (hM3.trans hm7))
  have HU7 := Lib.hid hu7
  clear hu7 hm7 hT hL hM3 hT3 HN HM2
  by_cases hmr : mayRm r = 0
  · have hN0 : nmR0 r = nmRm r := by unfold nmR0; rw [if_pos hmr]
    obtain ⟨f1, f2⟩ := normal_law hmr (few_names hmr)
    have f3 : nmR0 (nmRm r) = nmRm r := by unfold nmR0; rw [if_pos f1, f2]
    obtain ⟨z1, z2⟩ := renamed_law hmr
    have HSZ := Lib.hid (small_rn hmr)
    obtain ⟨N, hN⟩ : ∃ N, N = nmRm r := ⟨_, rfl⟩
    rw [hN0, ← hN] at hT7 hL7 hb7 HU7
    rw [hN0, ← hN]
    rw [← hN] at f1 f3 z2
    have HZ : Hid (mayRm (rnRm nameB r) = 0 → nmR0 (rnRm nameB r) = N) := Lib.hid (fun h => by unfold nmR0; rw [if_pos h, z2])
    have HNR : Hid (nmR0 r = N ∧ mayRm N = 0 ∧ nmR0 N = N ∧ mayRm r = 0) := Lib.hid ⟨by rw [hN0, hN], f1, f3, hmr⟩
    have HZ1 := Lib.hid z1
    have B7 : Hid (Bx u7 N w3.heap.size (.slice na N.head.terms.length nc) (.slice nb N.body.length nd)) := Lib.hid ⟨hb7, hT7, hL7, small_of_may f1⟩
    have hN2 := normal9 B7.out.sm hT7 hL7 (HP.out.mod0 HM7.out)
    rw [f3, f1] at hN2
    have HN2 := Lib.hid hN2
    rw [hmr]
    obtain ⟨c0, c1, c2⟩ := B7.out.cells (Mod.refl _ u7)
    rw [HU7.out] at c0 c1 c2
    clear hN0 f1 f2 f3 z1 z2 hN hb7 hT7 hL7 hN2 hmr
    go_wp2_with (first
      | (go_at_call 44; refine (num9_any _ _).mono ?_; rintro e w' ⟨rfl, rfl⟩))
    rw [← HU7.out]; clear HU7 c0 c1 c2
    refine HN2.out.mono ?_
    rintro e w4 ⟨ma, mc, mb, md, rfl, hT, hL, hM4⟩
    clear HN2
    obtain ⟨u9, hu9⟩ : ∃ u, u = w4.alloc (.cells #[.string N.head.pred, .slice ma N.head.terms.length mc, .slice mb N.body.length md] 40) := ⟨_, rfl⟩
    have hm9 : Mod (fun _ => False) w4 u9 := by rw [hu9]; exact (Mod.refl _ w4).alloc _
    have B9 : Hid (Bx u9 N w4.heap.size (.slice ma N.head.terms.length mc) (.slice mb N.body.length md)) := Lib.hid ⟨by rw [hu9]; exact heap_alloc_new w4 _, hT.mod0 hm9, hL.mod0 hm9, B7.out.sm⟩
    have HM79 := Lib.hid (hM4.trans hm9)
    have HM9 := Lib.hid (HM7.out.trans HM79.out)
    have HU9 := Lib.hid hu9
    have HSS : Hid (∀ W, Mod (fun _ => False) u9 W → (W.cell? ⟨w3.heap.size, 0, none⟩ = some (.string N.head.pred) ∧ W.cell? ⟨w3.heap.size, 1, none⟩ = some (.slice na N.head.terms.length nc) ∧ W.cell? ⟨w3.heap.size, 2, none⟩ = some (.slice nb N.body.length nd)) ∧ (W.cell? ⟨w4.heap.size, 0, none⟩ = some (.string N.head.pred) ∧ W.cell? ⟨w4.heap.size, 1, none⟩ = some (.slice ma N.head.terms.length mc) ∧ W.cell? ⟨w4.heap.size, 2, none⟩ = some (.slice mb N.body.length md)) ∧ (W.cell? ⟨w.heap.size, 0, none⟩ = some (.string r.head.pred) ∧ W.cell? ⟨w.heap.size, 1, none⟩ = some (.slice ra r.head.terms.length rc) ∧ W.cell? ⟨w.heap.size, 2, none⟩ = some (.slice rb r.body.length rd))) := Lib.hid (fun W m => ⟨B7.out.cells (HM79.out.trans m), B9.out.cells m, B1.out.cells (HM9.out.trans m)⟩)
    clear hT hL hM4 hm9 hu9
    go_wp2_with fail
    rw [← HU9.out]; clear HU9
    refine wp_region_ord (fun W => (W.cell? ⟨w3.heap.size, 0, none⟩ = some (.string N.head.pred) ∧ W.cell? ⟨w3.heap.size, 1, none⟩ = some (.slice na N.head.terms.length nc) ∧ W.cell? ⟨w3.heap.size, 2, none⟩ = some (.slice nb N.body.length nd)) ∧ (W.cell? ⟨w4.heap.size, 0, none⟩ = some (.string N.head.pred) ∧ W.cell? ⟨w4.heap.size, 1, none⟩ = some (.slice ma N.head.terms.length mc) ∧ W.cell? ⟨w4.heap.size, 2, none⟩ = some (.slice mb N.body.length md)) ∧ (W.cell? ⟨w.heap.size, 0, none⟩ = some (.string r.head.pred) ∧ W.cell? ⟨w.heap.size, 1, none⟩ = some (.slice ra r.head.terms.length rc) ∧ W.cell? ⟨w.heap.size, 2, none⟩ = some (.slice rb r.body.length rd))) [(0, 0), (3, 1), (0, 2), (0, 3), (1, 4), (1, 5), (3, 6), (0, 7), (0, 8), (0, 9), (1, 10), (1, 12), (2, 11), (3, 13), (0, 14), (0, 15)] (by kernel_rfl) (by kernel_rfl) ?_
    have HC := Lib.hid ((Mod.refl (fun _ => False) u9).drew)
    go_wp2_with (first
      | (refine ord_pure rfl rfl rfl (fun K hK => ?_); go_big_quiet_op; refine hK _ ?_; clear hK K)
                        | (refine ord_skip rfl rfl ?_; simp only [Act.put, List.setIfInBounds_toArray, List.set_cons_zero, List.set_cons_succ])
                        | (refine ord_held rfl rfl rfl (HSS.out _ HC.out) (fun K hK => ?_); apply Exists.intro; refine ⟨fun w' hs => ?_, hK _ ?_⟩; (revert hs; dsimp only; (try simp only [and_imp]); intros; go_simp; rfl); clear hK K)
                        | (refine ord_keep rfl rfl (HSS.out _ HC.out) (fun K hK => ?_))
                        | (refine ord_drop rfl rfl (fun K hK => ?_))
                        | (refine ord_nil ?_)
      | (go_at_call 44; refine (num9_any _ _).mono ?_; rintro e w' ⟨rfl, rfl⟩))
    refine (same9 B7.out.sm (B7.out.ts.mod0 (HM79.out.trans HC.out)) (B7.out.ls.mod0 (HM79.out.trans HC.out)) (B9.out.ts.mod0 HC.out) (B9.out.ls.mod0 HC.out)).mono ?_
    rintro e v1 ⟨rfl, hM⟩
    have HC1 := Lib.hid (HC.out.trans hM)
    have HG1 := Lib.hid (HM9.out.trans HC1.out)
    clear hM HC
    go_wp2_with (first
      | (refine ord_pure rfl rfl rfl (fun K hK => ?_); go_big_quiet_op; refine hK _ ?_; clear hK K)
                        | (refine ord_skip rfl rfl ?_; simp only [Act.put, List.setIfInBounds_toArray, List.set_cons_zero, List.set_cons_succ])
                        | (refine ord_held rfl rfl rfl (HSS.out _ HC1.out) (fun K hK => ?_); apply Exists.intro; refine ⟨fun w' hs => ?_, hK _ ?_⟩; (revert hs; dsimp only; (try simp only [and_imp]); intros; go_simp; rfl); clear hK K)
                        | (refine ord_keep rfl rfl (HSS.out _ HC1.out) (fun K hK => ?_))
                        | (refine ord_drop rfl rfl (fun K hK => ?_))
                        | (refine ord_nil ?_)
      | (go_at_call 44; refine (num9_any _ _).mono ?_; rintro e w' ⟨rfl, rfl⟩))
    refine (B1.out.own HG1.out).mono ?_
    rintro e v2 ⟨k1, l1, k2, l2, rfl, hT, hL, hM⟩
    have HC2 := Lib.hid (HC1.out.trans hM)
    have HG2 := Lib.hid (HM9.out.trans HC2.out)
    have HAL := Lib.hid (alikeT (q := N) B1.out.sm B7.out.sm hT hL (B7.out.ts.mod0 (HM79.out.trans HC2.out)) (B7.out.ls.mod0 (HM79.out.trans HC2.out)) (HP.out.mod0 HG2.out) ⟨HNR.out.2.2.2, HNR.out.2.1, by rw [HNR.out.1, HNR.out.2.2.1]⟩)
    refine hK _ _ (HSS.out _ HC2.out) ?_; clear hK K
    clear hT hL hM HC1 HG1
    go_wp2_with (first
      | (refine ord_pure rfl rfl rfl (fun K hK => ?_); go_big_quiet_op; refine hK _ ?_; clear hK K)
                        | (refine ord_skip rfl rfl ?_; simp only [Act.put, List.setIfInBounds_toArray, List.set_cons_zero, List.set_cons_succ])
                        | (refine ord_held rfl rfl rfl (HSS.out _ HC2.out) (fun K hK => ?_); apply Exists.intro; refine ⟨fun w' hs => ?_, hK _ ?_⟩; (revert hs; dsimp only; (try simp only [and_imp]); intros; go_simp; rfl); clear hK K)
                        | (refine ord_keep rfl rfl (HSS.out _ HC2.out) (fun K hK => ?_))
                        | (refine ord_drop rfl rfl (fun K hK => ?_))
                        | (refine ord_nil ?_)
      | (go_at_call 44; refine (num9_any _ _).mono ?_; rintro e w' ⟨rfl, rfl⟩))
    refine HAL.out.mono ?_
    rintro e v3 ⟨rfl, hM⟩
    have HC3 := Lib.hid (HC2.out.trans hM)
    have HG3 := Lib.hid (HM9.out.trans HC3.out)
    have hbx := B1.out.cells HG3.out
    obtain ⟨c0, c1, c2⟩ := hbx
    clear hM HAL HC2 HG2
    go_wp2_with (first
      | (refine ord_pure rfl rfl rfl (fun K hK => ?_); go_big_quiet_op; refine hK _ ?_; clear hK K)
                        | (refine ord_skip rfl rfl ?_; simp only [Act.put, List.setIfInBounds_toArray, List.set_cons_zero, List.set_cons_succ])
                        | (refine ord_held rfl rfl rfl (HSS.out _ HC3.out) (fun K hK => ?_); apply Exists.intro; refine ⟨fun w' hs => ?_, hK _ ?_⟩; (revert hs; dsimp only; (try simp only [and_imp]); intros; go_simp; rfl); clear hK K)
                        | (refine ord_keep rfl rfl (HSS.out _ HC3.out) (fun K hK => ?_))
                        | (refine ord_drop rfl rfl (fun K hK => ?_))
                        | (refine ord_nil ?_)
      | (go_at_call 44; refine (num9_any _ _).mono ?_; rintro e w' ⟨rfl, rfl⟩))
    clear HSS
    have HRN := Lib.hid (renamed_go r _ _ v3 (B1.out.ts.mod0 HG3.out) (B1.out.ls.mod0 HG3.out) B1.out.sm)
    unfold rmV at HRN
    obtain ⟨Z, hZ⟩ : ∃ Z, Z = rnRm nameB r := ⟨_, rfl⟩
    rw [← hZ] at HRN HZ HZ1 HSZ
    clear hZ
    refine HRN.out.mono ?_
    rintro e w8 ⟨s', b', rfl, hT, hL, hM8⟩
    obtain ⟨za, zc, rfl, _⟩ := id hT
    obtain ⟨zb, zd, _, rfl, _⟩ := id hL
    obtain ⟨u11, hu11⟩ : ∃ u, u = w8.alloc (.cells #[.string Z.head.pred, .slice za Z.head.terms.length zc, .slice zb Z.body.length zd] 40) := ⟨_, rfl⟩
    have hm11 : Mod (fun _ => False) w8 u11 := by rw [hu11]; exact (Mod.refl _ w8).alloc _
    have B11 : Hid (Bx u11 Z w8.heap.size (.slice za Z.head.terms.length zc) (.slice zb Z.body.length zd)) := Lib.hid ⟨by rw [hu11]; exact heap_alloc_new w8 _, hT.mod0 hm11, hL.mod0 hm11, HSZ.out⟩
    have HM11 := Lib.hid (HG3.out.trans (hM8.trans hm11))
    have HM711 := Lib.hid (HM79.out.trans (HC3.out.trans (hM8.trans hm11)))
    have HN3 := Lib.hid (normal9 B11.out.sm B11.out.ts B11.out.ls (HP.out.mod0 HM11.out))
    obtain ⟨e0, e1, e2⟩ := B11.out.cells (Mod.refl _ u11)
    rw [hu11] at e0 e1 e2
    have HU11 := Lib.hid hu11
    clear hT hL hM8 hm11 hu11 HRN c0 c1 c2 HC3 HG3
    go_wp2_with fail
    rw [← HU11.out]; clear HU11 e0 e1 e2
    refine HN3.out.mono ?_
    rintro e w9 ⟨oa, oc, ob, od, rfl, hT, hL, hM⟩
    clear HN3
    rcases HZ1.out with hz | hz
    · rw [hz]
      have hO : nmR0 Z = N := HZ.out hz
      rw [hO] at hT hL
      rw [hO]
      obtain ⟨u12, hu12⟩ : ∃ u, u = w9.alloc (.cells #[.string N.head.pred, .slice oa N.head.terms.length oc, .slice ob N.body.length od] 40) := ⟨_, rfl⟩
      have hm12 : Mod (fun _ => False) w9 u12 := by rw [hu12]; exact (Mod.refl _ w9).alloc _
      have B12 : Hid (Bx u12 N w9.heap.size (.slice oa N.head.terms.length oc) (.slice ob N.body.length od)) := Lib.hid ⟨by rw [hu12]; exact heap_alloc_new w9 _, hT.mod0 hm12, hL.mod0 hm12, B7.out.sm⟩
      have HM112 := Lib.hid (hM.trans hm12)
      have HM12 := Lib.hid (HM11.out.trans HM112.out)
      have HM712 := Lib.hid (HM711.out.trans HM112.out)
      have HU12 := Lib.hid hu12
      have HZ0 := Lib.hid hz
      have HO := Lib.hid hO
      have HSS : Hid (∀ W, Mod (fun _ => False) u12 W → (W.cell? ⟨w9.heap.size, 0, none⟩ = some (.string N.head.pred) ∧ W.cell? ⟨w9.heap.size, 1, none⟩ = some (.slice oa N.head.terms.length oc) ∧ W.cell? ⟨w9.heap.size, 2, none⟩ = some (.slice ob N.body.length od)) ∧ (W.cell? ⟨w3.heap.size, 0, none⟩ = some (.string N.head.pred) ∧ W.cell? ⟨w3.heap.size, 1, none⟩ = some (.slice na N.head.terms.length nc) ∧ W.cell? ⟨w3.heap.size, 2, none⟩ = some (.slice nb N.body.length nd)) ∧ (W.cell? ⟨w.heap.size, 0, none⟩ = some (.string r.head.pred) ∧ W.cell? ⟨w.heap.size, 1, none⟩ = some (.slice ra r.head.terms.length rc) ∧ W.cell? ⟨w.heap.size, 2, none⟩ = some (.slice rb r.body.length rd)) ∧ (W.cell? ⟨w8.heap.size, 0, none⟩ = some (.string Z.head.pred) ∧ W.cell? ⟨w8.heap.size, 1, none⟩ = some (.slice za Z.head.terms.length zc) ∧ W.cell? ⟨w8.heap.size, 2, none⟩ = some (.slice zb Z.body.length zd))) := Lib.hid (fun W m => ⟨B12.out.cells m, B7.out.cells (HM712.out.trans m), B1.out.cells (HM12.out.trans m), B11.out.cells (HM112.out.trans m)⟩)
      clear hT hL hM hm12 hu12 hz hO
      go_wp2_with (first
        | (go_at_call 44; refine (num9_any _ _).mono ?_; rintro e w' ⟨rfl, rfl⟩))
      rw [← HU12.out]; clear HU12
      refine wp_region_ord (fun W => (W.cell? ⟨w9.heap.size, 0, none⟩ = some (.string N.head.pred) ∧ W.cell? ⟨w9.heap.size, 1, none⟩ = some (.slice oa N.head.terms.length oc) ∧ W.cell? ⟨w9.heap.size, 2, none⟩ = some (.slice ob N.body.length od)) ∧ (W.cell? ⟨w3.heap.size, 0, none⟩ = some (.string N.head.pred) ∧ W.cell? ⟨w3.heap.size, 1, none⟩ = some (.slice na N.head.terms.length nc) ∧ W.cell? ⟨w3.heap.size, 2, none⟩ = some (.slice nb N.body.length nd)) ∧ (W.cell? ⟨w.heap.size, 0, none⟩ = some (.string r.head.pred) ∧ W.cell? ⟨w.heap.size, 1, none⟩ = some (.slice ra r.head.terms.length rc) ∧ W.cell? ⟨w.heap.size, 2, none⟩ = some (.slice rb r.body.length rd)) ∧ (W.cell? ⟨w8.heap.size, 0, none⟩ = some (.string Z.head.pred) ∧ W.cell? ⟨w8.heap.size, 1, none⟩ = some (.slice za Z.head.terms.length zc) ∧ W.cell? ⟨w8.heap.size, 2, none⟩ = some (.slice zb Z.body.length zd))) [(0, 0), (3, 1), (0, 2), (0, 3), (1, 4), (1, 5), (3, 6), (0, 7), (0, 8), (0, 9), (1, 10), (1, 12), (2, 11), (3, 13), (0, 14), (0, 15)] (by kernel_rfl) (by kernel_rfl) ?_
      have HC := Lib.hid ((Mod.refl (fun _ => False) u12).drew)
      go_wp2_with (first
        | (refine ord_pure rfl rfl rfl (fun K hK => ?_); go_big_quiet_op; refine hK _ ?_; clear hK K)
                        | (refine ord_skip rfl rfl ?_; simp only [Act.put, List.setIfInBounds_toArray, List.set_cons_zero, List.set_cons_succ])
                        | (refine ord_held rfl rfl rfl (HSS.out _ HC.out) (fun K hK => ?_); apply Exists.intro; refine ⟨fun w' hs => ?_, hK _ ?_⟩; (revert hs; dsimp only; (try simp only [and_imp]); intros; go_simp; rfl); clear hK K)
                        | (refine ord_keep rfl rfl (HSS.out _ HC.out) (fun K hK => ?_))
                        | (refine ord_drop rfl rfl (fun K hK => ?_))
                        | (refine ord_nil ?_)
        | (go_at_call 44; refine (num9_any _ _).mono ?_; rintro e w' ⟨rfl, rfl⟩))
      refine (same9 B7.out.sm (B12.out.ts.mod0 HC.out) (B12.out.ls.mod0 HC.out) (B7.out.ts.mod0 (HM712.out.trans HC.out)) (B7.out.ls.mod0 (HM712.out.trans HC.out))).mono ?_
      rintro e x1 ⟨rfl, hM⟩
      have HC1 := Lib.hid (HC.out.trans hM)
      have HC1g := Lib.hid (HM12.out.trans HC1.out)
      clear hM HC
      go_wp2_with (first
        | (refine ord_pure rfl rfl rfl (fun K hK => ?_); go_big_quiet_op; refine hK _ ?_; clear hK K)
                        | (refine ord_skip rfl rfl ?_; simp only [Act.put, List.setIfInBounds_toArray, List.set_cons_zero, List.set_cons_succ])
                        | (refine ord_held rfl rfl rfl (HSS.out _ HC1.out) (fun K hK => ?_); apply Exists.intro; refine ⟨fun w' hs => ?_, hK _ ?_⟩; (revert hs; dsimp only; (try simp only [and_imp]); intros; go_simp; rfl); clear hK K)
                        | (refine ord_keep rfl rfl (HSS.out _ HC1.out) (fun K hK => ?_))
                        | (refine ord_drop rfl rfl (fun K hK => ?_))
                        | (refine ord_nil ?_)
        | (go_at_call 44; refine (num9_any _ _).mono ?_; rintro e w' ⟨rfl, rfl⟩))
      refine (B1.out.own HC1g.out).mono ?_
      rintro e x2 ⟨k3, l3, k4, l4, rfl, hT, hL, hM⟩
      have HC2 := Lib.hid (HC1.out.trans hM)
      have HC2g := Lib.hid (HM12.out.trans HC2.out)
      have HC2t := Lib.hid hT; have HC2l := Lib.hid hL; have HC2m := Lib.hid hM
      clear hT hL hM
      refine hK _ _ (HSS.out _ HC2.out) ?_; clear hK K
      have HAL := Lib.hid (alikeT (q := Z) B1.out.sm HSZ.out HC2t.out HC2l.out (B11.out.ts.mod0 (HM112.out.trans HC2.out)) (B11.out.ls.mod0 (HM112.out.trans HC2.out)) (HP.out.mod0 HC2g.out) ⟨HNR.out.2.2.2, HZ0.out, by rw [HNR.out.1, HO.out]⟩)
      clear HC1 HC1g
      go_wp2_with (first
        | (refine ord_pure rfl rfl rfl (fun K hK => ?_); go_big_quiet_op; refine hK _ ?_; clear hK K)
                        | (refine ord_skip rfl rfl ?_; simp only [Act.put, List.setIfInBounds_toArray, List.set_cons_zero, List.set_cons_succ])
                        | (refine ord_held rfl rfl rfl (HSS.out _ HC2.out) (fun K hK => ?_); apply Exists.intro; refine ⟨fun w' hs => ?_, hK _ ?_⟩; (revert hs; dsimp only; (try simp only [and_imp]); intros; go_simp; rfl); clear hK K)
                        | (refine ord_keep rfl rfl (HSS.out _ HC2.out) (fun K hK => ?_))
                        | (refine ord_drop rfl rfl (fun K hK => ?_))
                        | (refine ord_nil ?_)
        | (go_at_call 44; refine (num9_any _ _).mono ?_; rintro e w' ⟨rfl, rfl⟩))
      refine HAL.out.mono ?_
      rintro e x3 ⟨rfl, hM⟩
      have HC3 := Lib.hid (HC2.out.trans hM)
      have HC3g := Lib.hid (HM12.out.trans HC3.out)
      clear hM HAL HC2 HC2g HC2t HC2l
      go_wp2_with (first
        | (refine ord_pure rfl rfl rfl (fun K hK => ?_); go_big_quiet_op; refine hK _ ?_; clear hK K)
                        | (refine ord_skip rfl rfl ?_; simp only [Act.put, List.setIfInBounds_toArray, List.set_cons_zero, List.set_cons_succ])
                        | (refine ord_held rfl rfl rfl (HSS.out _ HC3.out) (fun K hK => ?_); apply Exists.intro; refine ⟨fun w' hs => ?_, hK _ ?_⟩; (revert hs; dsimp only; (try simp only [and_imp]); intros; go_simp; rfl); clear hK K)
                        | (refine ord_keep rfl rfl (HSS.out _ HC3.out) (fun K hK => ?_))
                        | (refine ord_drop rfl rfl (fun K hK => ?_))
                        | (refine ord_nil ?_)
        | (go_at_call 44; refine (num9_any _ _).mono ?_; rintro e w' ⟨rfl, rfl⟩))
      clear HSS
      have HSS : Hid (∀ W, Mod (fun _ => False) u12 W → (W.cell? ⟨w.heap.size, 0, none⟩ = some (.string r.head.pred) ∧ W.cell? ⟨w.heap.size, 1, none⟩ = some (.slice ra r.head.terms.length rc) ∧ W.cell? ⟨w.heap.size, 2, none⟩ = some (.slice rb r.body.length rd)) ∧ (W.cell? ⟨w.heap.size + 1, 0, none⟩ = some (.string q.head.pred) ∧ W.cell? ⟨w.heap.size + 1, 1, none⟩ = some (.slice qa q.head.terms.length qc) ∧ W.cell? ⟨w.heap.size + 1, 2, none⟩ = some (.slice qb q.body.length qd)) ∧ (W.cell? ⟨w.heap.size + 1 + 1, 0, none⟩ = some (.string t.head.pred) ∧ W.cell? ⟨w.heap.size + 1 + 1, 1, none⟩ = some (.slice ta t.head.terms.length tc) ∧ W.cell? ⟨w.heap.size + 1 + 1, 2, none⟩ = some (.slice tb t.body.length td))) := Lib.hid (fun W m => ⟨B1.out.cells (HM12.out.trans m), B2.out.cells (HM12.out.trans m), B3.out.cells (HM12.out.trans m)⟩)
      refine wp_region_ord (fun W => (W.cell? ⟨w.heap.size, 0, none⟩ = some (.string r.head.pred) ∧ W.cell? ⟨w.heap.size, 1, none⟩ = some (.slice ra r.head.terms.length rc) ∧ W.cell? ⟨w.heap.size, 2, none⟩ = some (.slice rb r.body.length rd)) ∧ (W.cell? ⟨w.heap.size + 1, 0, none⟩ = some (.string q.head.pred) ∧ W.cell? ⟨w.heap.size + 1, 1, none⟩ = some (.slice qa q.head.terms.length qc) ∧ W.cell? ⟨w.heap.size + 1, 2, none⟩ = some (.slice qb q.body.length qd)) ∧ (W.cell? ⟨w.heap.size + 1 + 1, 0, none⟩ = some (.string t.head.pred) ∧ W.cell? ⟨w.heap.size + 1 + 1, 1, none⟩ = some (.slice ta t.head.terms.length tc) ∧ W.cell? ⟨w.heap.size + 1 + 1, 2, none⟩ = some (.slice tb t.body.length td))) [(1, 0), (1, 2), (1, 5), (1, 7), (2, 1), (2, 3), (2, 4), (2, 6), (3, 8), (3, 9), (0, 10), (0, 11)] (by kernel_rfl) (by kernel_rfl) ?_
      have HC4 := Lib.hid HC3.out.drew
      have HC4g := Lib.hid HC3g.out.drew
      clear HC3 HC3g
      go_wp2_with (first
        | (refine ord_pure rfl rfl rfl (fun K hK => ?_); go_big_quiet_op; refine hK _ ?_; clear hK K)
                        | (refine ord_skip rfl rfl ?_; simp only [Act.put, List.setIfInBounds_toArray, List.set_cons_zero, List.set_cons_succ])
                        | (refine ord_held rfl rfl rfl (HSS.out _ HC4.out) (fun K hK => ?_); apply Exists.intro; refine ⟨fun w' hs => ?_, hK _ ?_⟩; (revert hs; dsimp only; (try simp only [and_imp]); intros; go_simp; rfl); clear hK K)
                        | (refine ord_keep rfl rfl (HSS.out _ HC4.out) (fun K hK => ?_))
                        | (refine ord_drop rfl rfl (fun K hK => ?_))
                        | (refine ord_nil ?_))
      refine (B1.out.own HC4g.out).mono ?_
      rintro e x4 ⟨k5, l5, k6, l6, rfl, hT, hL, hM⟩
      have HC5 := Lib.hid (HC4.out.trans hM)
      have HC5g := Lib.hid (HM12.out.trans HC5.out)
      have HC5t := Lib.hid hT; have HC5l := Lib.hid hL; have HC5m := Lib.hid hM
      clear hT hL hM
      refine hK _ _ (HSS.out _ HC5.out) ?_; clear hK K
      go_wp2_with (first
        | (refine ord_pure rfl rfl rfl (fun K hK => ?_); go_big_quiet_op; refine hK _ ?_; clear hK K)
                        | (refine ord_skip rfl rfl ?_; simp only [Act.put, List.setIfInBounds_toArray, List.set_cons_zero, List.set_cons_succ])
                        | (refine ord_held rfl rfl rfl (HSS.out _ HC5.out) (fun K hK => ?_); apply Exists.intro; refine ⟨fun w' hs => ?_, hK _ ?_⟩; (revert hs; dsimp only; (try simp only [and_imp]); intros; go_simp; rfl); clear hK K)
                        | (refine ord_keep rfl rfl (HSS.out _ HC5.out) (fun K hK => ?_))
                        | (refine ord_drop rfl rfl (fun K hK => ?_))
                        | (refine ord_nil ?_))
      refine (B2.out.own HC5g.out).mono ?_
      rintro e x5 ⟨k7, l7, k8, l8, rfl, hT, hL, hM⟩
      have HC6 := Lib.hid (HC5.out.trans hM)
      have HC6g := Lib.hid (HM12.out.trans HC6.out)
      have HC6t := Lib.hid hT; have HC6l := Lib.hid hL; have HC6m := Lib.hid hM
      clear hT hL hM
      refine hK _ _ (HSS.out _ HC6.out) ?_; clear hK K
      have HAL := Lib.hid (alike9 B1.out.sm B2.out.sm (HC5t.out.mod0 HC6m.out) (HC5l.out.mod0 HC6m.out) HC6t.out HC6l.out (HP.out.mod0 HC6g.out))
      clear HC4 HC4g HC5 HC5g
      go_wp2_with (first
        | (refine ord_pure rfl rfl rfl (fun K hK => ?_); go_big_quiet_op; refine hK _ ?_; clear hK K)
                        | (refine ord_skip rfl rfl ?_; simp only [Act.put, List.setIfInBounds_toArray, List.set_cons_zero, List.set_cons_succ])
                        | (refine ord_held rfl rfl rfl (HSS.out _ HC6.out) (fun K hK => ?_); apply Exists.intro; refine ⟨fun w' hs => ?_, hK _ ?_⟩; (revert hs; dsimp only; (try simp only [and_imp]); intros; go_simp; rfl); clear hK K)
                        | (refine ord_keep rfl rfl (HSS.out _ HC6.out) (fun K hK => ?_))
                        | (refine ord_drop rfl rfl (fun K hK => ?_))
                        | (refine ord_nil ?_))
      refine HAL.out.mono ?_
      rintro e x6 ⟨tx, rfl, hiff, hM⟩
      have HTX := Lib.hid hiff
      have HC7 := Lib.hid (HC6.out.trans hM)
      have HC7g := Lib.hid (HM12.out.trans HC7.out)
      clear hiff hM HAL
      refine hK _ _ (HSS.out _ HC7.out) ?_; clear hK K
      go_wp2_with (first
        | (refine ord_pure rfl rfl rfl (fun K hK => ?_); go_big_quiet_op; refine hK _ ?_; clear hK K)
                        | (refine ord_skip rfl rfl ?_; simp only [Act.put, List.setIfInBounds_toArray, List.set_cons_zero, List.set_cons_succ])
                        | (refine ord_held rfl rfl rfl (HSS.out _ HC7.out) (fun K hK => ?_); apply Exists.intro; refine ⟨fun w' hs => ?_, hK _ ?_⟩; (revert hs; dsimp only; (try simp only [and_imp]); intros; go_simp; rfl); clear hK K)
                        | (refine ord_keep rfl rfl (HSS.out _ HC7.out) (fun K hK => ?_))
                        | (refine ord_drop rfl rfl (fun K hK => ?_))
                        | (refine ord_nil ?_))
      refine (B2.out.own HC7g.out).mono ?_
      rintro e x7 ⟨i1, j1, i2, j2, rfl, hT, hL, hM⟩
      have HC8 := Lib.hid (HC7.out.trans hM)
      have HC8g := Lib.hid (HM12.out.trans HC8.out)
      have HC8t := Lib.hid hT; have HC8l := Lib.hid hL; have HC8m := Lib.hid hM
      clear hT hL hM
      refine hK _ _ (HSS.out _ HC8.out) ?_; clear hK K
      go_wp2_with (first
        | (refine ord_pure rfl rfl rfl (fun K hK => ?_); go_big_quiet_op; refine hK _ ?_; clear hK K)
                        | (refine ord_skip rfl rfl ?_; simp only [Act.put, List.setIfInBounds_toArray, List.set_cons_zero, List.set_cons_succ])
                        | (refine ord_held rfl rfl rfl (HSS.out _ HC8.out) (fun K hK => ?_); apply Exists.intro; refine ⟨fun w' hs => ?_, hK _ ?_⟩; (revert hs; dsimp only; (try simp only [and_imp]); intros; go_simp; rfl); clear hK K)
                        | (refine ord_keep rfl rfl (HSS.out _ HC8.out) (fun K hK => ?_))
                        | (refine ord_drop rfl rfl (fun K hK => ?_))
                        | (refine ord_nil ?_))
      refine (B3.out.own HC8g.out).mono ?_
      rintro e x8 ⟨i3, j3, i4, j4, rfl, hT, hL, hM⟩
      have HC9 := Lib.hid (HC8.out.trans hM)
      have HC9g := Lib.hid (HM12.out.trans HC9.out)
      have HC9t := Lib.hid hT; have HC9l := Lib.hid hL; have HC9m := Lib.hid hM
      clear hT hL hM
      have HAL := Lib.hid (alike9 B2.out.sm B3.out.sm (HC8t.out.mod0 HC9m.out) (HC8l.out.mod0 HC9m.out) HC9t.out HC9l.out (HP.out.mod0 HC9g.out))
      clear HC7 HC7g HC8 HC8g
      go_wp2_with (first
        | (refine ord_pure rfl rfl rfl (fun K hK => ?_); go_big_quiet_op; refine hK _ ?_; clear hK K)
                        | (refine ord_skip rfl rfl ?_; simp only [Act.put, List.setIfInBounds_toArray, List.set_cons_zero, List.set_cons_succ])
                        | (refine ord_held rfl rfl rfl (HSS.out _ HC9.out) (fun K hK => ?_); apply Exists.intro; refine ⟨fun w' hs => ?_, hK _ ?_⟩; (revert hs; dsimp only; (try simp only [and_imp]); intros; go_simp; rfl); clear hK K)
                        | (refine ord_keep rfl rfl (HSS.out _ HC9.out) (fun K hK => ?_))
                        | (refine ord_drop rfl rfl (fun K hK => ?_))
                        | (refine ord_nil ?_))
      refine HAL.out.mono ?_
      rintro e x9 ⟨ty, rfl, hiff, hM⟩
      have HTY := Lib.hid hiff
      have HC10 := Lib.hid (HC9.out.trans hM)
      have HC10g := Lib.hid (HM12.out.trans HC10.out)
      clear hiff hM HAL
      go_wp2_with (first
        | (refine ord_pure rfl rfl rfl (fun K hK => ?_); go_big_quiet_op; refine hK _ ?_; clear hK K)
                        | (refine ord_skip rfl rfl ?_; simp only [Act.put, List.setIfInBounds_toArray, List.set_cons_zero, List.set_cons_succ])
                        | (refine ord_held rfl rfl rfl (HSS.out _ HC10.out) (fun K hK => ?_); apply Exists.intro; refine ⟨fun w' hs => ?_, hK _ ?_⟩; (revert hs; dsimp only; (try simp only [and_imp]); intros; go_simp; rfl); clear hK K)
                        | (refine ord_keep rfl rfl (HSS.out _ HC10.out) (fun K hK => ?_))
                        | (refine ord_drop rfl rfl (fun K hK => ?_))
                        | (refine ord_nil ?_))
      refine wp_region_ord (fun W => (W.cell? ⟨w.heap.size, 0, none⟩ = some (.string r.head.pred) ∧ W.cell? ⟨w.heap.size, 1, none⟩ = some (.slice ra r.head.terms.length rc) ∧ W.cell? ⟨w.heap.size, 2, none⟩ = some (.slice rb r.body.length rd)) ∧ (W.cell? ⟨w.heap.size + 1, 0, none⟩ = some (.string q.head.pred) ∧ W.cell? ⟨w.heap.size + 1, 1, none⟩ = some (.slice qa q.head.terms.length qc) ∧ W.cell? ⟨w.heap.size + 1, 2, none⟩ = some (.slice qb q.body.length qd)) ∧ (W.cell? ⟨w.heap.size + 1 + 1, 0, none⟩ = some (.string t.head.pred) ∧ W.cell? ⟨w.heap.size + 1 + 1, 1, none⟩ = some (.slice ta t.head.terms.length tc) ∧ W.cell? ⟨w.heap.size + 1 + 1, 2, none⟩ = some (.slice tb t.body.length td))) [(0, 0), (1, 1), (1, 3), (2, 2), (3, 4), (3, 5), (0, 6)] (by kernel_rfl) (by kernel_rfl) ?_
      have HC11 := Lib.hid HC10.out.drew
      have HC11g := Lib.hid HC10g.out.drew
      clear HC10 HC10g
      go_wp2_with (first
        | (refine ord_pure rfl rfl rfl (fun K hK => ?_); go_big_quiet_op; refine hK _ ?_; clear hK K)
                        | (refine ord_skip rfl rfl ?_; simp only [Act.put, List.setIfInBounds_toArray, List.set_cons_zero, List.set_cons_succ])
                        | (refine ord_held rfl rfl rfl (HSS.out _ HC11.out) (fun K hK => ?_); apply Exists.intro; refine ⟨fun w' hs => ?_, hK _ ?_⟩; (revert hs; dsimp only; (try simp only [and_imp]); intros; go_simp; rfl); clear hK K)
                        | (refine ord_keep rfl rfl (HSS.out _ HC11.out) (fun K hK => ?_))
                        | (refine ord_drop rfl rfl (fun K hK => ?_))
                        | (refine ord_nil ?_))
      refine (B2.out.own HC11g.out).mono ?_
      rintro e x10 ⟨m1, n1, m2, n2, rfl, hT, hL, hM⟩
      have HC12 := Lib.hid (HC11.out.trans hM)
      have HC12g := Lib.hid (HM12.out.trans HC12.out)
      have HC12t := Lib.hid hT; have HC12l := Lib.hid hL; have HC12m := Lib.hid hM
      clear hT hL hM
      refine hK _ _ (HSS.out _ HC12.out) ?_; clear hK K
      go_wp2_with (first
        | (refine ord_pure rfl rfl rfl (fun K hK => ?_); go_big_quiet_op; refine hK _ ?_; clear hK K)
                        | (refine ord_skip rfl rfl ?_; simp only [Act.put, List.setIfInBounds_toArray, List.set_cons_zero, List.set_cons_succ])
                        | (refine ord_held rfl rfl rfl (HSS.out _ HC12.out) (fun K hK => ?_); apply Exists.intro; refine ⟨fun w' hs => ?_, hK _ ?_⟩; (revert hs; dsimp only; (try simp only [and_imp]); intros; go_simp; rfl); clear hK K)
                        | (refine ord_keep rfl rfl (HSS.out _ HC12.out) (fun K hK => ?_))
                        | (refine ord_drop rfl rfl (fun K hK => ?_))
                        | (refine ord_nil ?_))
      refine (B1.out.own HC12g.out).mono ?_
      rintro e x11 ⟨m3, n3, m4, n4, rfl, hT, hL, hM⟩
      have HC13 := Lib.hid (HC12.out.trans hM)
      have HC13g := Lib.hid (HM12.out.trans HC13.out)
      have HC13t := Lib.hid hT; have HC13l := Lib.hid hL; have HC13m := Lib.hid hM
      clear hT hL hM
      have HAL := Lib.hid (alike9 B2.out.sm B1.out.sm (HC12t.out.mod0 HC13m.out) (HC12l.out.mod0 HC13m.out) HC13t.out HC13l.out (HP.out.mod0 HC13g.out))
      clear HC11 HC11g HC12 HC12g
      go_wp2_with (first
        | (refine ord_pure rfl rfl rfl (fun K hK => ?_); go_big_quiet_op; refine hK _ ?_; clear hK K)
                        | (refine ord_skip rfl rfl ?_; simp only [Act.put, List.setIfInBounds_toArray, List.set_cons_zero, List.set_cons_succ])
                        | (refine ord_held rfl rfl rfl (HSS.out _ HC13.out) (fun K hK => ?_); apply Exists.intro; refine ⟨fun w' hs => ?_, hK _ ?_⟩; (revert hs; dsimp only; (try simp only [and_imp]); intros; go_simp; rfl); clear hK K)
                        | (refine ord_keep rfl rfl (HSS.out _ HC13.out) (fun K hK => ?_))
                        | (refine ord_drop rfl rfl (fun K hK => ?_))
                        | (refine ord_nil ?_))
      refine HAL.out.mono ?_
      rintro e x12 ⟨tz, rfl, hiff, hM⟩
      have HTZ := Lib.hid hiff
      have HC14 := Lib.hid (HC13.out.trans hM)
      have HC14g := Lib.hid (HM12.out.trans HC14.out)
      clear hiff hM HAL
      obtain rfl : tz = tx := by
        have h1 := HTX.out
        have h2 := HTZ.out
        cases tz <;> cases tx
        · rfl
        · exact (h2.2 (h1.1 rfl).symm')
        · exact (h1.2 (h2.1 rfl).symm').symm
        · rfl
      clear HTZ
      cases tz
      · cases ty
        all_goals
        go_wp2_with (first
          | (refine ord_pure rfl rfl rfl (fun K hK => ?_); go_big_quiet_op; refine hK _ ?_; clear hK K)
                        | (refine ord_skip rfl rfl ?_; simp only [Act.put, List.setIfInBounds_toArray, List.set_cons_zero, List.set_cons_succ])
                        | (refine ord_held rfl rfl rfl (HSS.out _ HC14.out) (fun K hK => ?_); apply Exists.intro; refine ⟨fun w' hs => ?_, hK _ ?_⟩; (revert hs; dsimp only; (try simp only [and_imp]); intros; go_simp; rfl); clear hK K)
                        | (refine ord_keep rfl rfl (HSS.out _ HC14.out) (fun K hK => ?_))
                        | (refine ord_drop rfl rfl (fun K hK => ?_))
                        | (refine ord_nil ?_))
        refine wp_region_ord (fun W => (W.cell? ⟨w.heap.size, 0, none⟩ = some (.string r.head.pred) ∧ W.cell? ⟨w.heap.size, 1, none⟩ = some (.slice ra r.head.terms.length rc) ∧ W.cell? ⟨w.heap.size, 2, none⟩ = some (.slice rb r.body.length rd)) ∧ (W.cell? ⟨w.heap.size + 1, 0, none⟩ = some (.string q.head.pred) ∧ W.cell? ⟨w.heap.size + 1, 1, none⟩ = some (.slice qa q.head.terms.length qc) ∧ W.cell? ⟨w.heap.size + 1, 2, none⟩ = some (.slice qb q.body.length qd)) ∧ (W.cell? ⟨w.heap.size + 1 + 1, 0, none⟩ = some (.string t.head.pred) ∧ W.cell? ⟨w.heap.size + 1 + 1, 1, none⟩ = some (.slice ta t.head.terms.length tc) ∧ W.cell? ⟨w.heap.size + 1 + 1, 2, none⟩ = some (.slice tb t.body.length td))) [(0, 0), (0, 1), (0, 2), (0, 3), (0, 4), (0, 5), (1, 6), (1, 8), (2, 7), (3, 9), (3, 10), (0, 11), (0, 12)] (by kernel_rfl) (by kernel_rfl) ?_
        have HC15 := Lib.hid HC14.out.drew
        have HC15g := Lib.hid HC14g.out.drew
        go_wp2_with (first
          | (refine ord_pure rfl rfl rfl (fun K hK => ?_); go_big_quiet_op; refine hK _ ?_; clear hK K)
                        | (refine ord_skip rfl rfl ?_; simp only [Act.put, List.setIfInBounds_toArray, List.set_cons_zero, List.set_cons_succ])
                        | (refine ord_held rfl rfl rfl (HSS.out _ HC15.out) (fun K hK => ?_); apply Exists.intro; refine ⟨fun w' hs => ?_, hK _ ?_⟩; (revert hs; dsimp only; (try simp only [and_imp]); intros; go_simp; rfl); clear hK K)
                        | (refine ord_keep rfl rfl (HSS.out _ HC15.out) (fun K hK => ?_))
                        | (refine ord_drop rfl rfl (fun K hK => ?_))
                        | (refine ord_nil ?_))
        go_ret
        exact ⟨rfl, HM0.out.trans HC15g.out⟩
      · cases ty
        · skip
          go_wp2_with (first
            | (refine ord_pure rfl rfl rfl (fun K hK => ?_); go_big_quiet_op; refine hK _ ?_; clear hK K)
                        | (refine ord_skip rfl rfl ?_; simp only [Act.put, List.setIfInBounds_toArray, List.set_cons_zero, List.set_cons_succ])
                        | (refine ord_held rfl rfl rfl (HSS.out _ HC14.out) (fun K hK => ?_); apply Exists.intro; refine ⟨fun w' hs => ?_, hK _ ?_⟩; (revert hs; dsimp only; (try simp only [and_imp]); intros; go_simp; rfl); clear hK K)
                        | (refine ord_keep rfl rfl (HSS.out _ HC14.out) (fun K hK => ?_))
                        | (refine ord_drop rfl rfl (fun K hK => ?_))
                        | (refine ord_nil ?_))
          refine wp_region_ord (fun W => (W.cell? ⟨w.heap.size, 0, none⟩ = some (.string r.head.pred) ∧ W.cell? ⟨w.heap.size, 1, none⟩ = some (.slice ra r.head.terms.length rc) ∧ W.cell? ⟨w.heap.size, 2, none⟩ = some (.slice rb r.body.length rd)) ∧ (W.cell? ⟨w.heap.size + 1, 0, none⟩ = some (.string q.head.pred) ∧ W.cell? ⟨w.heap.size + 1, 1, none⟩ = some (.slice qa q.head.terms.length qc) ∧ W.cell? ⟨w.heap.size + 1, 2, none⟩ = some (.slice qb q.body.length qd)) ∧ (W.cell? ⟨w.heap.size + 1 + 1, 0, none⟩ = some (.string t.head.pred) ∧ W.cell? ⟨w.heap.size + 1 + 1, 1, none⟩ = some (.slice ta t.head.terms.length tc) ∧ W.cell? ⟨w.heap.size + 1 + 1, 2, none⟩ = some (.slice tb t.body.length td))) [(0, 0), (0, 1), (0, 2), (0, 3), (0, 4), (0, 5), (1, 6), (1, 8), (2, 7), (3, 9), (3, 10), (0, 11), (0, 12)] (by kernel_rfl) (by kernel_rfl) ?_
          have HC15 := Lib.hid HC14.out.drew
          have HC15g := Lib.hid HC14g.out.drew
          go_wp2_with (first
            | (refine ord_pure rfl rfl rfl (fun K hK => ?_); go_big_quiet_op; refine hK _ ?_; clear hK K)
                        | (refine ord_skip rfl rfl ?_; simp only [Act.put, List.setIfInBounds_toArray, List.set_cons_zero, List.set_cons_succ])
                        | (refine ord_held rfl rfl rfl (HSS.out _ HC15.out) (fun K hK => ?_); apply Exists.intro; refine ⟨fun w' hs => ?_, hK _ ?_⟩; (revert hs; dsimp only; (try simp only [and_imp]); intros; go_simp; rfl); clear hK K)
                        | (refine ord_keep rfl rfl (HSS.out _ HC15.out) (fun K hK => ?_))
                        | (refine ord_drop rfl rfl (fun K hK => ?_))
                        | (refine ord_nil ?_))
          go_ret
          exact ⟨rfl, HM0.out.trans HC15g.out⟩
        · skip
          go_wp2_with (first
            | (refine ord_pure rfl rfl rfl (fun K hK => ?_); go_big_quiet_op; refine hK _ ?_; clear hK K)
                        | (refine ord_skip rfl rfl ?_; simp only [Act.put, List.setIfInBounds_toArray, List.set_cons_zero, List.set_cons_succ])
                        | (refine ord_held rfl rfl rfl (HSS.out _ HC14.out) (fun K hK => ?_); apply Exists.intro; refine ⟨fun w' hs => ?_, hK _ ?_⟩; (revert hs; dsimp only; (try simp only [and_imp]); intros; go_simp; rfl); clear hK K)
                        | (refine ord_keep rfl rfl (HSS.out _ HC14.out) (fun K hK => ?_))
                        | (refine ord_drop rfl rfl (fun K hK => ?_))
                        | (refine ord_nil ?_))
          refine wp_region_ord (fun W => (W.cell? ⟨w.heap.size, 0, none⟩ = some (.string r.head.pred) ∧ W.cell? ⟨w.heap.size, 1, none⟩ = some (.slice ra r.head.terms.length rc) ∧ W.cell? ⟨w.heap.size, 2, none⟩ = some (.slice rb r.body.length rd)) ∧ (W.cell? ⟨w.heap.size + 1, 0, none⟩ = some (.string q.head.pred) ∧ W.cell? ⟨w.heap.size + 1, 1, none⟩ = some (.slice qa q.head.terms.length qc) ∧ W.cell? ⟨w.heap.size + 1, 2, none⟩ = some (.slice qb q.body.length qd)) ∧ (W.cell? ⟨w.heap.size + 1 + 1, 0, none⟩ = some (.string t.head.pred) ∧ W.cell? ⟨w.heap.size + 1 + 1, 1, none⟩ = some (.slice ta t.head.terms.length tc) ∧ W.cell? ⟨w.heap.size + 1 + 1, 2, none⟩ = some (.slice tb t.body.length td))) [(0, 0), (0, 1), (0, 2), (0, 3), (0, 4), (0, 5), (1, 6), (1, 8), (2, 7), (3, 9), (3, 10), (0, 11), (0, 12)] (by kernel_rfl) (by kernel_rfl) ?_
          have HC15 := Lib.hid HC14.out.drew
          have HC15g := Lib.hid HC14g.out.drew
          go_wp2_with (first
            | (refine ord_pure rfl rfl rfl (fun K hK => ?_); go_big_quiet_op; refine hK _ ?_; clear hK K)
                        | (refine ord_skip rfl rfl ?_; simp only [Act.put, List.setIfInBounds_toArray, List.set_cons_zero, List.set_cons_succ])
                        | (refine ord_held rfl rfl rfl (HSS.out _ HC15.out) (fun K hK => ?_); apply Exists.intro; refine ⟨fun w' hs => ?_, hK _ ?_⟩; (revert hs; dsimp only; (try simp only [and_imp]); intros; go_simp; rfl); clear hK K)
                        | (refine ord_keep rfl rfl (HSS.out _ HC15.out) (fun K hK => ?_))
                        | (refine ord_drop rfl rfl (fun K hK => ?_))
                        | (refine ord_nil ?_))
          refine (B1.out.own HC15g.out).mono ?_
          rintro e x13 ⟨p1, q1, p2, q2, rfl, hT, hL, hM⟩
          have HC16 := Lib.hid (HC15.out.trans hM)
          have HC16g := Lib.hid (HM12.out.trans HC16.out)
          have HC16t := Lib.hid hT; have HC16l := Lib.hid hL; have HC16m := Lib.hid hM
          clear hT hL hM
          refine hK _ _ (HSS.out _ HC16.out) ?_; clear hK K
          go_wp2_with (first
            | (refine ord_pure rfl rfl rfl (fun K hK => ?_); go_big_quiet_op; refine hK _ ?_; clear hK K)
                        | (refine ord_skip rfl rfl ?_; simp only [Act.put, List.setIfInBounds_toArray, List.set_cons_zero, List.set_cons_succ])
                        | (refine ord_held rfl rfl rfl (HSS.out _ HC16.out) (fun K hK => ?_); apply Exists.intro; refine ⟨fun w' hs => ?_, hK _ ?_⟩; (revert hs; dsimp only; (try simp only [and_imp]); intros; go_simp; rfl); clear hK K)
                        | (refine ord_keep rfl rfl (HSS.out _ HC16.out) (fun K hK => ?_))
                        | (refine ord_drop rfl rfl (fun K hK => ?_))
                        | (refine ord_nil ?_))
          refine (B3.out.own HC16g.out).mono ?_
          rintro e x14 ⟨p3, q3, p4, q4, rfl, hT, hL, hM⟩
          have HC17 := Lib.hid (HC16.out.trans hM)
          have HC17g := Lib.hid (HM12.out.trans HC17.out)
          have HC17t := Lib.hid hT; have HC17l := Lib.hid hL; have HC17m := Lib.hid hM
          clear hT hL hM
          have HAL := Lib.hid (alikeT B1.out.sm B3.out.sm (HC16t.out.mod0 HC17m.out) (HC16l.out.mod0 HC17m.out) HC17t.out HC17l.out (HP.out.mod0 HC17g.out) (by
            have h1 := HTX.out.1 trivial
            have h2 := HTY.out.1 trivial
            exact ⟨h1.1, h2.2.1, h1.2.2.trans h2.2.2⟩))
          go_wp2_with (first
            | (refine ord_pure rfl rfl rfl (fun K hK => ?_); go_big_quiet_op; refine hK _ ?_; clear hK K)
                        | (refine ord_skip rfl rfl ?_; simp only [Act.put, List.setIfInBounds_toArray, List.set_cons_zero, List.set_cons_succ])
                        | (refine ord_held rfl rfl rfl (HSS.out _ HC17.out) (fun K hK => ?_); apply Exists.intro; refine ⟨fun w' hs => ?_, hK _ ?_⟩; (revert hs; dsimp only; (try simp only [and_imp]); intros; go_simp; rfl); clear hK K)
                        | (refine ord_keep rfl rfl (HSS.out _ HC17.out) (fun K hK => ?_))
                        | (refine ord_drop rfl rfl (fun K hK => ?_))
                        | (refine ord_nil ?_))
          refine HAL.out.mono ?_
          rintro e x15 ⟨rfl, hM⟩
          have HC18g := Lib.hid (HC17g.out.trans hM)
          have HC18 := Lib.hid (HC17.out.trans hM)
          clear hM HAL
          go_wp2_with (first
            | (refine ord_pure rfl rfl rfl (fun K hK => ?_); go_big_quiet_op; refine hK _ ?_; clear hK K)
                        | (refine ord_skip rfl rfl ?_; simp only [Act.put, List.setIfInBounds_toArray, List.set_cons_zero, List.set_cons_succ])
                        | (refine ord_held rfl rfl rfl (HSS.out _ HC18.out) (fun K hK => ?_); apply Exists.intro; refine ⟨fun w' hs => ?_, hK _ ?_⟩; (revert hs; dsimp only; (try simp only [and_imp]); intros; go_simp; rfl); clear hK K)
                        | (refine ord_keep rfl rfl (HSS.out _ HC18.out) (fun K hK => ?_))
                        | (refine ord_drop rfl rfl (fun K hK => ?_))
                        | (refine ord_nil ?_))
          go_ret
          exact ⟨rfl, HM0.out.trans HC18g.out⟩
    · rw [hz]
      have HM12 := Lib.hid ((HM11.out.trans hM).alloc (.cells #[.string (nmR0 Z).head.pred, .slice oa (nmR0 Z).head.terms.length oc, .slice ob (nmR0 Z).body.length od] 40))
      clear hT hL hM
      go_wp2_with (first
        | (go_at_call 44; refine (num9_any _ _).mono ?_; rintro e w' ⟨rfl, rfl⟩))
      go_ret
      exact ⟨rfl, HM0.out.trans HM12.out⟩
  · have hb : (mayRm r != 0) = true := by simpa using hmr
    have HMR := Lib.hid hmr
    have HSS : Hid (∀ W, Mod (fun _ => False) u0 W → (W.cell? ⟨w.heap.size, 0, none⟩ = some (.string r.head.pred) ∧ W.cell? ⟨w.heap.size, 1, none⟩ = some (.slice ra r.head.terms.length rc) ∧ W.cell? ⟨w.heap.size, 2, none⟩ = some (.slice rb r.body.length rd))) := fun W m => B1.out.cells m
    clear hmr hb7 hT7 hL7
    go_wp2_with (first
      | (go_at_call 44; refine (num9_any _ _).mono ?_; rintro e w' ⟨rfl, rfl⟩))
    rw [← HU7.out]; clear HU7
    refine wp_region_ord (fun W => (W.cell? ⟨w.heap.size, 0, none⟩ = some (.string r.head.pred) ∧ W.cell? ⟨w.heap.size, 1, none⟩ = some (.slice ra r.head.terms.length rc) ∧ W.cell? ⟨w.heap.size, 2, none⟩ = some (.slice rb r.body.length rd))) [(1, 0), (1, 2), (2, 1), (3, 3), (3, 4), (0, 5), (0, 6)] (by kernel_rfl) (by kernel_rfl) ?_
    have HC := Lib.hid HM7.out.drew
    go_wp2_with (first
      | (refine ord_pure rfl rfl rfl (fun K hK => ?_); go_big_quiet_op; refine hK _ ?_; clear hK K)
                        | (refine ord_skip rfl rfl ?_; simp only [Act.put, List.setIfInBounds_toArray, List.set_cons_zero, List.set_cons_succ])
                        | (refine ord_held rfl rfl rfl (HSS.out _ HC.out) (fun K hK => ?_); apply Exists.intro; refine ⟨fun w' hs => ?_, hK _ ?_⟩; (revert hs; dsimp only; (try simp only [and_imp]); intros; go_simp; rfl); clear hK K)
                        | (refine ord_keep rfl rfl (HSS.out _ HC.out) (fun K hK => ?_))
                        | (refine ord_drop rfl rfl (fun K hK => ?_))
                        | (refine ord_nil ?_))
    refine (B1.out.own HC.out).mono ?_
    rintro e v1 ⟨k1, l1, k2, l2, rfl, hT, hL, hM⟩
    have HC1 := Lib.hid (HC.out.trans hM)
    refine hK _ _ (HSS.out _ HC1.out) ?_; clear hK K
    have HT1 := Lib.hid hT; have HL1 := Lib.hid hL
    clear hT hL hM
    go_wp2_with (first
      | (refine ord_pure rfl rfl rfl (fun K hK => ?_); go_big_quiet_op; refine hK _ ?_; clear hK K)
                        | (refine ord_skip rfl rfl ?_; simp only [Act.put, List.setIfInBounds_toArray, List.set_cons_zero, List.set_cons_succ])
                        | (refine ord_held rfl rfl rfl (HSS.out _ HC1.out) (fun K hK => ?_); apply Exists.intro; refine ⟨fun w' hs => ?_, hK _ ?_⟩; (revert hs; dsimp only; (try simp only [and_imp]); intros; go_simp; rfl); clear hK K)
                        | (refine ord_keep rfl rfl (HSS.out _ HC1.out) (fun K hK => ?_))
                        | (refine ord_drop rfl rfl (fun K hK => ?_))
                        | (refine ord_nil ?_))
    refine (B1.out.own HC1.out).mono ?_
    rintro e v2 ⟨k3, l3, k4, l4, rfl, hT, hL, hM⟩
    have HC2 := Lib.hid (HC1.out.trans hM)
    have HAL := Lib.hid (alike9 B1.out.sm B1.out.sm (HT1.out.mod0 hM) (HL1.out.mod0 hM) hT hL (HP.out.mod0 HC2.out))
    clear hT hL hM
    go_wp2_with (first
      | (refine ord_pure rfl rfl rfl (fun K hK => ?_); go_big_quiet_op; refine hK _ ?_; clear hK K)
                        | (refine ord_skip rfl rfl ?_; simp only [Act.put, List.setIfInBounds_toArray, List.set_cons_zero, List.set_cons_succ])
                        | (refine ord_held rfl rfl rfl (HSS.out _ HC2.out) (fun K hK => ?_); apply Exists.intro; refine ⟨fun w' hs => ?_, hK _ ?_⟩; (revert hs; dsimp only; (try simp only [and_imp]); intros; go_simp; rfl); clear hK K)
                        | (refine ord_keep rfl rfl (HSS.out _ HC2.out) (fun K hK => ?_))
                        | (refine ord_drop rfl rfl (fun K hK => ?_))
                        | (refine ord_nil ?_))
    refine HAL.out.mono ?_
    rintro e v3 ⟨tt, rfl, hiff, hM⟩
    obtain rfl : tt = false := by
      cases tt
      · rfl
      · exact absurd (hiff.1 rfl).1 HMR.out
    have HC3 := Lib.hid (HC2.out.trans hM)
    clear hM hiff HAL
    go_wp2_with (first
      | (refine ord_pure rfl rfl rfl (fun K hK => ?_); go_big_quiet_op; refine hK _ ?_; clear hK K)
                        | (refine ord_skip rfl rfl ?_; simp only [Act.put, List.setIfInBounds_toArray, List.set_cons_zero, List.set_cons_succ])
                        | (refine ord_held rfl rfl rfl (HSS.out _ HC3.out) (fun K hK => ?_); apply Exists.intro; refine ⟨fun w' hs => ?_, hK _ ?_⟩; (revert hs; dsimp only; (try simp only [and_imp]); intros; go_simp; rfl); clear hK K)
                        | (refine ord_keep rfl rfl (HSS.out _ HC3.out) (fun K hK => ?_))
                        | (refine ord_drop rfl rfl (fun K hK => ?_))
                        | (refine ord_nil ?_))
    go_ret
    exact ⟨rfl, HM0.out.trans HC3.out⟩
end Go.Proofs.YtgplagdehfhffaaDoor
