/-
  print.Tidy, walked.
-/
import Derived.Test.YtphgglnkdfndiaaDoorTiH
import Derived.Test.YtphgglnkdfndiaaDoorNmG
import Derived.Test.YtphgglnkdfndiaaDoorRenL
import Derived.Test.YtphgglnkdfndiaaDoorTxG
namespace Go.Proofs.YtphgglnkdfndiaaDoor
open Go Go.RowKit Go.Mine
set_option linter.unusedVariables false
set_option maxHeartbeats 4000000
set_option maxRecDepth 100000

theorem few_nm {r : Rm} (h : mayRm r = 0) : (namesR r).length < 90000 := by
  obtain ⟨h1, h2, h3⟩ := may_rule h
  have e1 := nmTs_le [] r.head.terms
  have e2 := nmLs_le (nmTs [] r.head.terms).2 r.body h3
  have e3 := (okAm h1).few
  unfold namesR
  simp at e1
  omega
theorem OkTm.smT {t : Tm} (h : OkTm t) : t.text.size < 2 ^ 30 := by have := h.len; omega
theorem small_may {r : Rm} (h : mayRm r = 0) : SmallRm r := by
  obtain ⟨h1, h2, h3⟩ := may_rule h
  have o1 := okAm h1
  refine ⟨⟨by have := o1.plen; omega, by have := o1.few; omega, fun t ht => (o1.all t ht).smT⟩, by omega, fun l hl => ?_⟩
  rcases may_lit (h3 l hl) with ⟨_, _, hl0, hr0, _, hb, hm⟩ | ⟨_, p1, p2, hl0, hr0⟩
  · have o2 := okAm hm
    have e : emptyB.size = 0 := rfl
    refine ⟨⟨by have := o2.plen; omega, by have := o2.few; omega, fun t ht => (o2.all t ht).smT⟩, ?_, ?_⟩
    · rw [hb.2.1.2, e]; decide
    · rw [hb.2.2.2, e]; decide
  · have e : emptyB.size = 0 := rfl
    refine ⟨⟨by rw [p1, e]; decide, by rw [p2]; simp, fun t ht => by rw [p2] at ht; cases ht⟩, hl0.smT, hr0.smT⟩
/-- a rule that lies in blocks of its own -/
def RmG (w : World) (G : Nat → Prop) (s b : Value) (r : Rm) : Prop := TsF w G s r.head.terms ∧ LsF w G b r.body
theorem RmG.step {S G G' : Nat → Prop} {w w' : World} {s b : Value} {r : Rm} (h : RmG w G s b r) (m : Mod S w w') (hs : ∀ b, b < w.heap.size → G b → ¬ S b) (hg : ∀ b, b < w.heap.size → G b → G' b) : RmG w' G' s b r := ⟨h.1.step m hs hg, h.2.step m hs hg⟩
theorem RmG.one {w : World} {G : Nat → Prop} {s b : Value} {r : Rm} (h : RmG w G s b r) (t : ByteArray) : One ((t, r), s, b) := by
  obtain ⟨⟨a, c, e, _⟩, a2, c2, _, e2, _⟩ := h
  exact ⟨⟨_, _, _, e⟩, _, _, _, e2⟩
/-- rules that were made anew -/
def RsG (w : World) (lo : Nat) (v : Value) (rs : List Rm) : Prop :=
  ∃ a c xs, v = .slice a rs.length c ∧ xs.map Prod.fst = rs ∧ Rd w a (rmsC xs) ∧ (∀ b, blk a = some b → lo ≤ b) ∧ ∀ x ∈ xs, RmG w (fun b => lo ≤ b) x.2.1 x.2.2 x.1
theorem RsG.at {w : World} {lo : Nat} {v : Value} {rs : List Rm} (h : RsG w lo v rs) : RsAt w v rs := by
  obtain ⟨a, c, xs, e, hx, hr, _, ht⟩ := h
  exact ⟨a, c, xs, e, hx, hr, fun x hx => ⟨(ht x hx).1.at, (ht x hx).2.at⟩⟩
theorem RsG.nil (w : World) (lo : Nat) : RsG w lo (.slice none 0 0) [] := ⟨none, 0, [], rfl, rfl, Rd.nil _ _, fun b hb => by simp at hb, fun x hx => by cases hx⟩
theorem RsG.step {S : Nat → Prop} {w w' : World} {lo : Nat} {v : Value} {rs : List Rm} (h : RsG w lo v rs) (m : Mod S w w') (hs : ∀ b, lo ≤ b → ¬ S b) : RsG w' lo v rs := by
  obtain ⟨a, c, xs, e, hx, hr, hb, ht⟩ := h
  exact ⟨a, c, xs, e, hx, hr.mod m (fun b h => hs b (hb b h)), hb, fun x hx => (ht x hx).step m (fun b _ g => hs b g) (fun _ _ g => g)⟩
theorem mayRs_allT : ∀ {rs : List Rm}, mayRs rs = 0 → ∀ r ∈ rs, mayRm r = 0
  | [], _, r, hr => by cases hr
  | x :: rs, h, r, hr => by
    rw [mayRs] at h
    by_cases h1 : mayRm x ≠ 0
    · rw [if_pos h1] at h; exact absurd h h1
    · rw [if_neg h1] at h
      rcases List.mem_cons.1 hr with rfl | hr
      · simpa using h1
      · exact mayRs_allT h r hr
theorem mayRs_each {rs : List Rm} (h : mayPm rs = 0) : rs.length ≤ 1024 ∧ ∀ r ∈ rs, mayRm r = 0 := by
  unfold mayPm at h
  split at h
  · cases h
  · exact ⟨by omega, mayRs_allT h⟩
attribute [local go_sem] Oper.semAt_some
@[local go_sem, local simp] theorem wide_fnT (f : FuncId) : Fence.wide.fn f = True := rfl
@[local go_sem, local simp] theorem wide_depthT : Fence.wide.depth = none := rfl
def rV (x : Wv) : Rm × Value × Value := (x.1.2, sS x.2.1, sS x.2.2)
/-- what a round of Tidy's range finds -/
def TdI (v0 : World) (O : Nat) (pre : List Wv) (W : World) : Prop :=
  Mod (fun k => k = O) v0 W ∧ ∃ a c, Boxed W O 24 (.slice a pre.length c) ∧ Mine.Own W 38 3 a pre.length c (rmsC (pre.map rV)) ∧ ∀ b, blk a = some b → v0.heap.size ≤ b
theorem tdI_own (v0 : World) (O B : Nat) (hB : v0.heap.size ≤ B) : OwnFrom B (TdI v0 O) := by
  rintro pre W W' row ⟨h1, a, c, h4, h5, h6⟩ hg hr
  have hr2 := fun r e => (hr r e).2
  exact ⟨Mod.turned h1 hg (fun r e => Nat.le_trans hB (hr r e).1), a, c, bx_turned h4 hg hr2, Mine.Own.turned h5 hg hr2, h6⟩
theorem TidyO_any (rs : List Rm) (v0 : Value) (w : World) (hs : SmallPm rs) (hr : RsAt w v0 rs) (hpw : Pow w) :
    Calls Tryd.prog 7 #[.agg #[v0]] w fun e w' => ∃ v, e = .returned (.tuple #[.agg #[v], .int .i64 (tidE (tidyL rs))]) ∧ RsG w' w.heap.size v (tidR (tidyL rs)) ∧ Mod (fun _ => False) w w' ∧ ∃ u ds, v = u.val ∧ PrO w' w.heap.size u ds := by
  have HMay := Lib.hid (fun wx (m : Mod (fun _ => False) w wx) => May_any rs v0 wx hs (hr.mod0 m))
  obtain ⟨ad, c, xv, rfl, hx, hrx, hxt⟩ := hr
  have HX := Lib.hid hx; have HR := Lib.hid hrx; have HXT := Lib.hid hxt; have HSM := Lib.hid hs; have HPW := Lib.hid hpw
  have hlen := hs.1
  clear hx hrx hxt hs hpw
  refine (callsIn_wide (n := 3)).1 ?_
  refine callsIn_of_wp_marks Tryd.func7 rfl trivial ?_ rfl
  simp only [Tryd.ntmps7, List.size_toArray, List.length_cons, List.length_nil, Nat.reduceAdd, Nat.reduceSub, Array.replicate_succ, Array.replicate_zero, List.push_toArray, List.append_toArray, List.nil_append, List.cons_append]
  refine (wpIn_wide (n := 3)).2 ?_
  have hm0 : Mod (fun _ => False) w ((w.alloc (.cells #[.slice ad rs.length c] 24)).alloc (.cells #[.slice none 0 0] 24)) := ((Mod.refl _ w).alloc _).alloc _
  have hbA := heap_two1 w (.cells #[.slice ad rs.length c] 24) (.cells #[.slice none 0 0] 24)
  have hbR := heap_two2 w (.cells #[.slice ad rs.length c] 24) (.cells #[.slice none 0 0] 24)
  have hz0 : ((w.alloc (.cells #[.slice ad rs.length c] 24)).alloc (.cells #[.slice none 0 0] 24)).heap.size = w.heap.size + 2 := by simp
  have hc1 := HMay.out _ hm0
  have HBA := Lib.hid hbA; have HBR := Lib.hid hbR; have HM0 := Lib.hid hm0; have HZ0 := Lib.hid hz0; have HC1 := Lib.hid hc1
  clear hm0 hbA hbR hz0 hc1 HMay
  go_wp2_with fail
  generalize ((w.alloc (.cells #[.slice ad rs.length c] 24)).alloc (.cells #[.slice none 0 0] 24)) = w0 at *
  refine HC1.out.mono ?_
  rintro e w1 ⟨rfl, hM1⟩
  have HM1 := Lib.hid hM1
  clear HC1
  by_cases hmay : mayPm rs = 0
  · have HMY := Lib.hid hmay
    rw [hmay]
    clear hM1 hmay
    go_wp2_with fail
    refine (newSet_any w1).mono ?_
    rintro e w2 ⟨B, rfl, hS, hM2, hB⟩
    have HS := Lib.hid hS; have HM2 := Lib.hid (HM1.out.trans hM2)
    have hB0 : w0.heap.size ≤ B := Nat.le_trans HM1.out.size hB
    have hSO : SetO w2 B none 0 [] := ⟨hS, Mine.Own.nil _ _ _, by simp, List.Pairwise.nil, fun x hx => by cases hx⟩
    have HSO := Lib.hid hSO
    have HBG := Lib.hid hB0
    have HAL := Lib.hid (fun k (hk : k < rs.length) => (mayRs_each HMY.out).2 rs[k] (List.getElem_mem hk))
    have HLN := Lib.hid (mayRs_each HMY.out).1
    have HTG : Hid (tidyL rs = tidyGo [] rs) := by unfold Hid tidyL; rw [if_neg (by rw [HMY.out]; decide)]
    have HMWW := Lib.hid (HM0.out.trans HM2.out)
    have cA := cell_at (j := 0) (HM2.out.at HBA.out id) rfl
    clear hS hM2 hB hB0 hSO
    go_wp2_with fail
    clear cA
    go_loopw [7, 8, 9, 10, 11, 24] (fun _ _ _ _ _ iv wr => ∃ (k : Nat) (xs : List Wv) (a : Option Addr) (c2 : Nat), iv = .int .i64 k ∧ k ≤ rs.length ∧ Hid (tidyGo [] (rs.take k) = .ok (tx xs)) ∧ Hid (SetO wr B a c2 xs) ∧ Hid (∀ x ∈ xs, RmG wr (fun b => w0.heap.size ≤ b ∧ b ≠ B ∧ blk a ≠ some b) x.2.1 x.2.2 x.1.2) ∧ Hid (Mod (fun _ => False) w0 wr) ∧ Hid (∀ b, blk a = some b → w0.heap.size ≤ b) ∧ Hid (TF w0.heap.size wr B a c2 xs)) (fun _ _ _ _ _ iv _ => rs.length - (intOf iv).toNat)
    case atStart => exact ⟨0, [], none, 0, rfl, Nat.zero_le _, Lib.hid rfl, HSO, Lib.hid (fun x hx => by cases hx), HM2, Lib.hid (fun b hb => by simp at hb), Lib.hid (TF.start HSO.out HBG.out)⟩
    case round =>
      obtain ⟨k, xs, a, c2, rfl, hk, hgo, hset, hrm, hM, hab, hTF⟩ := hrel
      by_cases hlt : k < rs.length
      · obtain ⟨⟨sk, bk⟩, hxk, hmem⟩ := xs_get HX.out hlt
        obtain ⟨b, o, rfl, x0, x1, x2⟩ := rd_cellR (HR.out.mod (HM0.out.trans hM.out) (fun _ _ => id)) hxk
        have hmk := HAL.out k hlt
        obtain ⟨f1, _⟩ := normal_law hmk (few_nm hmk)
        obtain ⟨st1, st2⟩ := tidy_step hlt hgo.out
        have HNM : Hid (∀ W, Mod (fun _ => False) wr W → Calls Tryd.prog 8 #[rmV rs[k] sk bk] W fun e w' => ∃ s' b', e = .returned (.tuple #[rmV (nmRm rs[k]) s' b', .int .i64 0]) ∧ RmF w' W.heap.size s' b' (nmRm rs[k]) ∧ Mod (fun _ => False) W w' ∧ ∃ d : RD, s' = d.s.val ∧ b' = d.b.val ∧ RuO w' W.heap.size d) := fun W m => by
          have h := NormalO_any rs[k] sk bk W (HSM.out.2 _ (List.getElem_mem hlt)) ((HXT.out _ hmem).1.mod0 (HM0.out.trans (hM.out.trans m))) ((HXT.out _ hmem).2.mod0 (HM0.out.trans (hM.out.trans m))) (HPW.out.mod0 (HM0.out.trans (hM.out.trans m)))
          unfold NormRs nmR0 at h
          rw [if_pos hmk, hmk] at h
          exact h
        have HRU : Hid (∀ W s' b', TsAt W s' (nmRm rs[k]).head.terms → LsAt W b' (nmRm rs[k]).body → Calls Tryd.prog 13 #[rmV (nmRm rs[k]) s' b'] W fun e w' => e = .returned (.tuple #[.string ⟨(fitT (rmT (nmRm rs[k]))).1.toArray⟩, .int .i64 (fitT (rmT (nmRm rs[k]))).2]) ∧ Mod (fun _ => False) W w') := fun W s' b' h1 h2 => by
          have h := Rule_any (nmRm rs[k]) s' b' W (small_may f1) h1 h2
          rw [f1] at h
          exact h
        have hsl : (∃ a n c, sk = .slice a n c) ∧ ∃ a n c, bk = .slice a n c := by
          obtain ⟨⟨sa, sc, e1, _⟩, ba, bc, _, e2, _⟩ := HXT.out _ hmem
          exact ⟨⟨_, _, _, e1⟩, _, _, _, e2⟩
        have HST1 := Lib.hid st1; have HST2 := Lib.hid st2
        unfold txW at HST2
        clear st1 st2 f1 hmk hxk hmem
        generalize nmRm rs[k] = N at *
        unfold rmV at HNM HRU
        generalize rs[k].head.pred = pk at *
        obtain ⟨⟨ka, kn, kc, rfl⟩, la, ln, lc, rfl⟩ := hsl
        go_wp2_with fail
        refine (HNM.out _ ((Mod.refl _ wr).alloc _)).mono ?_
        rintro e w3 ⟨s1, b1, rfl, hF, hM3, d, hds, hdb, hRD⟩
        have m3 : Mod (fun _ => False) wr w3 := ((Mod.refl _ wr).alloc _).trans hM3
        have hF0 : RmG w3 (fun x => wr.heap.size + 1 ≤ x) s1 b1 N := by
          have h := hF
          rw [World.size_alloc] at h
          exact h
        have HF := Lib.hid hF0
        have m4 : Mod (fun _ => False) w3 (w3.alloc (.cells #[.string N.head.pred, s1, b1] 38)) := (Mod.refl _ w3).alloc _
        have HRC := Lib.hid (HRU.out _ s1 b1 (hF0.1.at.mod0 m4) (hF0.2.at.mod0 m4))
        have HB4 := Lib.hid (heap_alloc_new w3 (.cells #[.string N.head.pred, s1, b1] 38))
        have HON := Lib.hid (hF0.one ⟨(rmT N).toArray⟩)
        have HM4 := Lib.hid (m3.trans m4)
        have HMa := Lib.hid m4
        have HDD : Hid ((s1, b1) = (d.s.val, d.b.val)) := Lib.hid (by rw [hds, hdb])
        have HRD : Hid (RuO w3 (wr.heap.size + 1) d) := by rw [World.size_alloc] at hRD; exact Lib.hid hRD
        clear hds hdb hRD
        obtain ⟨⟨na, nc, e1, _⟩, nb, nd, _, e2, _⟩ := hF0
        subst e1 e2
        clear hF m3 m4 hM3 HNM HRU x0 x1 x2
        go_wp2_with fail
        refine HRC.out.mono ?_
        rintro e w4 ⟨rfl, hM5⟩
        have HM5 := Lib.hid (HM4.out.trans hM5)
        have HM34 := Lib.hid (HMa.out.trans hM5)
        have hb4 := hM5.at HB4.out id
        have HB5 := Lib.hid hb4
        have y0 := cell_at (j := 0) hb4 rfl; have y1 := cell_at (j := 1) hb4 rfl; have y2 := cell_at (j := 2) hb4 rfl
        clear hb4 HRC HM4 HB4 HMa
        by_cases htl : 65536 < (rmT N).length
        · have hft : fitT (rmT N) = ([], 3) := by unfold fitT; rw [if_pos htl]
          have hx1 := (hM.out.trans HM5.out).at HBR.out id
          have cR := cell_at (j := 0) hx1 rfl
          have fR := frozen_at (j := 0) hx1
          have HTE := Lib.hid (HTG.out.trans (HST1.out htl))
          have HX1 := Lib.hid hx1
          rw [hft]
          clear hx1 hft hM5 htl y0 y1 y2
          go_wp2_with fail
          have h2 := heap_setCell_at (j := 0) (.slice none 0 0) HX1.out
          have c2 := cell_at (j := 0) (u := .slice none 0 0) h2 rfl
          refine ⟨.tuple #[.agg #[.slice none 0 0], .int .i64 3], by simp [results, Tryd.f7, go_sem, c2], .slice none 0 0, by rw [HTE.out]; rfl, by rw [HTE.out]; exact RsG.nil _ _, ?_, Sl.nil, [], rfl, PrO.em (by have := (HM0.out.trans (hM.out.trans HM5.out)).size; simpa [World.setCell] using this)⟩
          refine (HM0.out.trans (hM.out.trans HM5.out)).setCell (fun h => ?_) _
          have : w.heap.size + 1 < w.heap.size := h
          omega
        · have hft : fitT (rmT N) = (rmT N, 0) := by unfold fitT; rw [if_neg htl]
          have hxl : xs.length ≤ 2 ^ 20 := by
            have h1 := tidyGo_len hgo.out
            have h2 := HLN.out
            rw [tx_len, List.length_take] at h1
            simp only [List.length_nil] at h1
            omega
          have HAD := Lib.hid (add_any B xs a c2 ((⟨(rmT N).toArray⟩, N), .slice na N.head.terms.length nc, .slice nb N.body.length nd) w4 (hset.out.mod0 HM5.out) hxl HON.out)
          unfold wnV at HAD
          have HGO := Lib.hid (HST2.out htl)
          have HTX := Lib.hid (tx_ins xs ((⟨(rmT N).toArray⟩, N), .slice na N.head.terms.length nc, .slice nb N.body.length nd))
          have HIM := Lib.hid (fun x (hx : x ∈ insV xs ((⟨(rmT N).toArray⟩, N), .slice na N.head.terms.length nc, .slice nb N.body.length nd)) => insV_mem hx)
          rw [hft]
          clear hft hM5 htl hxl
          go_wp2_with fail
          refine HAD.out.mono ?_
          rintro e w5 ⟨⟨v, rfl⟩, a5, c5, hS5, hM6, hP6⟩
          have HS5 := Lib.hid hS5; have HM6 := Lib.hid hM6; have HP6 := Lib.hid hP6
          clear hS5 hM6 hP6 y0 y1 y2
          go_wp2_with fail
          have hBl := hset.out.lt
          have hAl := hset.out.own.lt
          have hzw := HM0.out.size
          have hM05 := HM5.out.size
          have hzz := hM.out.size
          have hP : ∀ b, b < w4.heap.size → w0.heap.size ≤ b ∧ b ≠ B ∧ blk a ≠ some b → w0.heap.size ≤ b ∧ b ≠ B ∧ blk a5 ≠ some b := fun b hb ⟨h1, h2, h3⟩ => ⟨h1, h2, fun e => by
            rcases HP6.out with e2 | ⟨g, e2, hg⟩
            · rw [e2] at e; exact h3 e
            · rw [e2] at e; cases e; omega⟩
          go_roundw
          case rel =>
            refine ⟨k + 1, _, a5, c5, by go_num, hlt, Lib.hid (by rw [HTX.out]; exact HGO.out), HS5, Lib.hid (fun x hx => ?_), Lib.hid ((hM.out.trans HM5.out).step HM6.out (fun i hi e => ?_)), Lib.hid (fun b hb => ?_), Lib.hid (hTF.out.add HM5.out ⟨HRD.out.1, HRD.out.2.mod0 HM34.out⟩ (Nat.le_succ _) HDD.out HS5.out HM6.out HP6.out)⟩
            · rcases HIM.out x hx with rfl | hx
              · have g0 : RmG w4 (fun b => wr.heap.size + 1 ≤ b) (.slice na N.head.terms.length nc) (.slice nb N.body.length nd) N := HF.out.step HM34.out (fun _ _ _ => id) (fun _ _ g => g)
                refine g0.step HM6.out (fun b hb g e => ?_) (fun b hb g => hP b hb ⟨by omega, by omega, fun e => by have := hAl b e; omega⟩)
                rcases e with e | e
                · omega
                · have := hAl b e; omega
              · exact ((hrm.out x hx).step HM5.out (fun _ _ _ => id) (fun _ _ g => g)).step HM6.out (fun b _ g e => by
                  rcases e with e | e
                  · exact g.2.1 e
                  · exact g.2.2 e) hP
            · rcases e with e | e
              · have := HBG.out; omega
              · have := hab.out i e; omega
            · rcases HP6.out with e2 | ⟨g, e2, hg⟩
              · rw [e2] at hb; exact hab.out b hb
              · rw [e2] at hb; cases hb; omega
          case measure => simp [intOf]; omega
      · obtain rfl : k = rs.length := by omega
        have hxk : xs.length ≤ 1024 := by
          have h1 := tidyGo_len hgo.out
          have h2 := HLN.out
          rw [tx_len, List.length_take] at h1
          simp only [List.length_nil] at h1
          omega
        have hxl : xs.length ≤ 2 ^ 20 := by omega
        have HXK := Lib.hid hxk
        clear hxk
        have HTL : Hid (tidyL rs = .ok (tx xs)) := by
          have h1 := hgo.out
          rw [List.take_length] at h1
          exact Lib.hid (HTG.out.trans h1)
        have mO : Mod (fun _ => False) wr (wr.alloc (.cells #[.slice none 0 0] 24)) := (Mod.refl _ wr).alloc _
        have HE := Lib.hid (eachW_any B xs a c2 _ (hset.out.mod0 mO) hxl)
        have HBO := Lib.hid (heap_alloc_new wr (.cells #[.slice none 0 0] 24))
        have HMO := Lib.hid mO
        clear mO
        go_wp2_with fail
        refine HE.out.mono ?_
        rintro e v0 ⟨V, a6, c6, rfl, hV, hRV, hMV, hVg, haV⟩
        have HV := Lib.hid hV; have HRV := Lib.hid hRV; have HMV := Lib.hid hMV; have HVG := Lib.hid hVg; have HAV := Lib.hid haV
        clear hV hRV hMV hVg haV HE
        go_wp2_with fail
        have HON1 := Lib.hid hset.out.one
        have hKb := KpR.putObj (w := v0) (lo := wr.heap.size + 1) (hi := v0.heap.size) (Nat.le_refl _)
        have hLO : wr.heap.size + 1 = (wr.alloc (.cells #[.slice none 0 0] 24)).heap.size := by simp
        have hSeq := values_stops 2 V (wr.heap.size + 1) xs a6 c6 v0 hxl HV.out HRV.out (by have := HVG.out; omega) (fun b hb => by have := HAV.out b hb; omega) HON1.out
        have hOlt : wr.heap.size < v0.heap.size := by have := HMV.out.size; omega
        have hI0 : TdI v0 wr.heap.size [] v0 := ⟨Mod.refl _ _, none, 0, HMV.out.at HBO.out id, Mine.Own.nil _ _ _, fun b hb => by simp at hb⟩
        have HI0 := Lib.hid hI0; have HOL := Lib.hid hOlt
        clear hI0 hOlt hLO
        refine (wpIn_wide (n := 3)).1 ?_
        refine wpIn_rangeFunc_ownH rfl (by omega) (gf := 64) (lb := #[.pointer (some ⟨V, 0, none⟩)]) rfl trivial (enters_of Tryd.func64 (by kernel_rfl) rfl)
          hSeq (fun h k => KpR.trans h k) hKb (Below.refl _ _) (fun _ => rfl) (TdI v0 wr.heap.size) (fun _ _ _ => False) (tdI_own v0 wr.heap.size v0.heap.size (Nat.le_refl _)) (fun c => by rintro pre W W' row h; exact h.elim) HI0.out
          (fun x a' W => ∃ Bx, v0.heap.size ≤ Bx ∧ W.heap[Bx]? = some (.cells #[.string x.1.1, .string x.1.2.head.pred, sS x.2.1, sS x.2.2] 59 (0, 0)) ∧ a' = { tmps := #[.agg #[.slice ad rs.length c], .pointer (some ⟨w.heap.size, 0, none⟩), .pointer (some ⟨w.heap.size + 1, 0, none⟩), u3, .int .i64 0, .pointer (some ⟨B, 0, none⟩), undef, u7, u8, u9, u10, u11, .pointer (some ⟨wr.heap.size, 0, none⟩), .pointer (some ⟨Bx, 0, none⟩), .agg #[.slice ad rs.length c], .int .i64 0, .int .i64 0, .bool false, undef, undef, .pointer (some ⟨B, 0, none⟩), .pointer (some ⟨w.heap.size, 0, none⟩), .slice ad rs.length c, .int .i64 rs.length, .int .i64 rs.length, .bool false, u26, u27, u28, u29, u30, u31, u32, u33, u34, u35, u36, u37, u38, u39, u40, u41, u42, u43, u44, u45, u46, u47, .pointer (some ⟨B, 0, none⟩), .func (.func 64) #[] #[.pointer (some ⟨V, 0, none⟩)], wnE x, undef, undef, undef, undef, undef, undef, undef, undef], defers := [] })
          (fun x a' _ X Y row hs hg hr => by obtain ⟨Bx, h1, h2, h3⟩ := hs; exact ⟨Bx, h1, (Mod.ofGrown hg).at h2 (fun hs => cells_ne (fun r e => (hr r e).2) h2 hs), h3⟩)
          ?assign ?body ?done ?stop
        case assign =>
          rintro l1 pre x W K hi hK
          obtain ⟨⟨xt, xr⟩, xv1, xv2⟩ := x
          have hsW : v0.heap.size ≤ W.heap.size := hi.1.size
          have HK := Lib.hid hK
          have HI := Lib.hid hi
          clear hK hi hKb hSeq
          simp only [encV, wnE, sS] at *
          gi_wp2
          exact HK.out _ _ ((KeepsOthers.alloc _ _).from _) (KpR.of_mod ((Mod.refl (fun _ => False) W).alloc _) hsW (fun _ _ _ => id)) ((tdI_own _ _ _ (Nat.le_refl _)).alloc _ HI.out) ⟨W.heap.size, hsW, heap_alloc_new W _, rfl⟩
        case body =>
          rintro l1 pre x a' W hl1 ⟨rc, hrc⟩ hi ⟨Bx, hBx, hbx, rfl⟩ hlt2
          obtain ⟨h1, a7, c7, h4, h5, h6⟩ := hi
          obtain ⟨⟨xt, xr⟩, xv1, xv2⟩ := x
          simp only [wnE, sS] at hbx ⊢
          have d1 : W.cell? ⟨Bx, 1, none⟩ = some (.string xr.head.pred) := cell_at hbx rfl
          have d2 : W.cell? ⟨Bx, 2, none⟩ = some (.slice (sA xv1) (sN xv1) (sC xv1)) := cell_at hbx rfl
          have d3 : W.cell? ⟨Bx, 3, none⟩ = some (.slice (sA xv2) (sN xv2) (sC xv2)) := cell_at hbx rfl
          have d5 := h4.cell
          have f5 := h4.frozen
          have H1 := Lib.hid h1; have H4 := Lib.hid h4; have H5 := Lib.hid h5; have H6 := Lib.hid h6
          have hb3 : pre.length ≤ 2 ^ 20 := by omega
          have HN5 : Hid (blk a7 ≠ some wr.heap.size) := fun h => by have h7 := H6.out _ h; have h8 := HOL.out; omega
          clear h1 h4 h5 h6 hKb hSeq hbx hrc
          gi_wp2_with (gi_at_builtin; refine wpLI_appendN (fun _ => trivial) (us := [_, _, _]) rfl (.tmp 52) (.tmp 55) 22 rfl tiR rfl H5.out rfl rfl rfl (by omega) (by unfold maxLen; omega) ?_; intro a8 c8 w8 hO8 hG8 _
                       have hb8 : Boxed w8 _ _ _ := hG8.mod.at H4.out HN5.out
                       have d8 := hb8.cell
                       have f8 := hb8.frozen
                       have HB8 := Lib.hid hb8; have HO8 := Lib.hid hO8; have HG8 := Lib.hid hG8
                       clear hb8 hO8 hG8 d5)
          have hM : Mod (fun k => k = wr.heap.size ∨ blk a7 = some k) W (w8.setCell ⟨wr.heap.size, 0, none⟩ (.slice a8 (pre.length + 1) c8)) := (HG8.out.mod.mono (fun _ _ h => .inr h)).setCell (fun _ => .inl rfl) _
          have hsz := H1.out.size
          refine ⟨keepsFrom_mod hM ?_, KpR.of_mod hM (by omega) ?_, ?_, a8, c8, ?_, ?_, ?_⟩
          · rintro k (rfl | h) o ho
            · have := H4.out; unfold Boxed at this; rw [this] at ho; cases ho; rfl
            · obtain ⟨cur, hc⟩ := Mine.Own.blk_cells H5.out k h
              rw [hc] at ho; cases ho; rfl
          · rintro k hk1 hk2 (e | e)
            · omega
            · have := H6.out k e; omega
          · refine H1.out.step hM (fun i hi hs => ?_)
            rcases hs with e | e
            · exact e
            · have := H6.out i e; omega
          · rw [List.length_append]; exact bx_put HB8.out _
          · rw [List.length_append, List.map_append, rmsC_append]
            exact HO8.out.mod ((Mod.refl (fun b => b = wr.heap.size) w8).setCell (fun _ => rfl) _) (fun b hb e => by
              subst e
              rcases HG8.out.pos with e | ⟨g, e, hg⟩
              · rw [e] at hb; exact HN5.out hb
              · have h8 := HOL.out
                rw [e] at hb; cases hb; omega)
          · intro b hb
            rcases HG8.out.pos with e | ⟨g, e, hg⟩
            · rw [e] at hb; exact H6.out b hb
            · rw [e] at hb; cases hb; omega
        case done =>
          rintro D ys W hD he hi hK
          have he2 : ys = xs := he
          subst he2
          obtain ⟨h1, a7, c7, h4, h5, h6⟩ := hi
          have d4 := h4.cell
          have hx1 := h1.at ((HMO.out.trans HMV.out).at (hM.out.at HBR.out id) id) (by have := hM.out.size; have := HZ0.out; omega)
          have cR := cell_at (j := 0) hx1 rfl
          have fR := frozen_at (j := 0) hx1
          have H1 := Lib.hid h1; have H4 := Lib.hid h4; have H5 := Lib.hid h5; have H6 := Lib.hid h6
          have HK := Lib.hid hK; have HD := Lib.hid hD; have HX1 := Lib.hid hx1
          clear h1 h4 h5 h6 hK hKb hSeq hD hx1
          gi_wp2
          go_wp2_with fail
          obtain ⟨W', hW'⟩ : ∃ W', W' = W.setCell ⟨w.heap.size + 1, 0, none⟩ (.slice a7 ys.length c7) := ⟨_, rfl⟩
          rw [← hW']
          have hM' : Mod (fun k => k = w.heap.size + 1) W W' := by rw [hW']; exact (Mod.refl (fun k => k = w.heap.size + 1) W).setCell (p := ⟨w.heap.size + 1, 0, none⟩) (fun _ => rfl) _
          have hD := HD.out
          have hs1 := HZ0.out; have hs2 := hM.out.size; have hs3 := HOL.out
          have hK' := hM'.at HK.out (by omega)
          have hR2 : W'.heap[w.heap.size + 1]? = some (.cells #[.slice a7 ys.length c7] 24 (0, 0)) := by rw [hW']; exact heap_setCell_at (j := 0) (.slice a7 ys.length c7) HX1.out
          have hG := Mod.ofGrown (grownBy_putObj' W' D (.deferred none))
          refine ⟨by simp, .inl ⟨_, _, rfl, run_takeDeferred hK', ?_⟩⟩
          have c2 := cell_at (j := 0) (u := .slice a7 ys.length c7) (hG.at hR2 (fun e => by cases e; omega)) rfl
          have hMw : Mod (fun k => w.heap.size ≤ k ∧ (k = wr.heap.size ∨ v0.heap.size ≤ k ∨ k = w.heap.size + 1)) v0 (W'.putObj D (.deferred none)) :=
            ((H1.out.mono (fun k _ e => ⟨by omega, .inl e⟩)).step hM' (fun i _ e => ⟨by omega, .inr (.inr e)⟩)).step hG (fun i hi e => by cases e; omega)
          have hwr0 : Mod (fun _ => False) wr v0 := HMO.out.trans HMV.out
          have hG7 : ∀ y ∈ ys, RmG (W'.putObj D (.deferred none)) (fun b => w.heap.size ≤ b) y.2.1 y.2.2 y.1.2 := fun y hy => by
            have g0 := RmG.step (G' := fun b => w.heap.size ≤ b ∧ b < wr.heap.size ∧ b ≠ w.heap.size + 1) (hrm.out y hy) hwr0 (fun _ _ _ => id) (fun b hb g => ⟨by have := g.1; omega, hb, by have := g.1; omega⟩)
            exact g0.step hMw (fun b hb g e => by
                obtain ⟨_, e | e | e⟩ := e
                · omega
                · omega
                · exact g.2.2 e) (fun b _ g => g.1)
          refine ⟨.tuple #[.agg #[.slice a7 ys.length c7], .int .i64 0], by simp [results, Tryd.f7, go_sem, c2], .slice a7 ys.length c7, by rw [HTL.out]; rfl, ?_, ?_⟩
          · rw [HTL.out]
            have el : tidR (.ok (tx ys)) = ys.map (·.1.2) := by
              show (tx ys).map (·.2) = _
              unfold tx; rw [List.map_map]; rfl
            rw [el]
            refine ⟨a7, c7, ys.map rV, by rw [List.length_map], by rw [List.map_map]; rfl, ?_, fun b hb => by have := H6.out b hb; omega, fun x hx => ?_⟩
            · refine (H5.out.rd.mod hM' (fun b hb e => ?_)).mod hG (fun b hb e => ?_)
              · have := H6.out b hb; omega
              · cases e
                have hO' := H5.out.mod hM' (fun b hb e => by have := H6.out b hb; omega)
                obtain ⟨cur, hc⟩ := Mine.Own.blk_cells hO' D hb
                rw [hK'] at hc; cases hc
            · obtain ⟨y, hy, rfl⟩ := List.mem_map.1 hx
              have h7 := hG7 y hy
              obtain ⟨⟨ya, yn, yc, e1⟩, za, zn, zc, e2⟩ := HON1.out y hy
              unfold rV sS
              rw [e1, e2] at h7 ⊢
              exact h7
          · refine ⟨(HM0.out.trans (hM.out.trans hwr0)).step hMw (fun i hi e => by omega), ⟨a7, ys.length, c7⟩, ?_⟩
            have hwv := hwr0.size
            have hO7 : Mine.Own (W'.putObj D (.deferred none)) 38 3 a7 ys.length c7 (rmsC (ys.map rV)) := (H5.out.mod hM' (fun b hb e => by have := H6.out b hb; omega)).mod hG (fun b hb e => by
              cases e
              have hO' := H5.out.mod hM' (fun b hb e => by have := H6.out b hb; omega)
              obtain ⟨cur, hc⟩ := Mine.Own.blk_cells hO' D hb
              rw [hK'] at hc; cases hc)
            obtain ⟨ds, hds⟩ := hTF.out.fin (Lf := w.heap.size) (f := rV) ((hwr0.mono (T := fun k => w.heap.size ≤ k ∧ (k = wr.heap.size ∨ v0.heap.size ≤ k ∨ k = w.heap.size + 1)) (fun _ _ f => f.elim)).step hMw (fun i _ e => e)) (fun b h1 h2 e => by
              rcases e.2 with e | e | e
              · omega
              · omega
              · omega) HXK.out (fun _ => rfl) hO7 (fun b hb => by have := H6.out b hb; omega) (by omega)
            exact ⟨ds, rfl, hds⟩
        case stop =>
          rintro D cc pre W hD hpre hF
          exact hF.elim
  · have hb : ((mayPm rs) != 0) = true := by simpa using hmay
    have hx1 := hM1.at HBR.out id
    have cR := cell_at (j := 0) hx1 rfl
    have fR := frozen_at (j := 0) hx1
    have hTE : tidyL rs = .error (mayPm rs) := by unfold tidyL; rw [if_pos hmay]
    have HTE := Lib.hid hTE
    have HX1 := Lib.hid hx1
    clear hmay hM1 hTE hx1
    generalize mayPm rs = mv at *
    go_wp2_with fail
    have h2 := heap_setCell_at (j := 0) (.slice none 0 0) HX1.out
    have c2 := cell_at (j := 0) (u := .slice none 0 0) h2 rfl
    refine ⟨.tuple #[.agg #[.slice none 0 0], .int .i64 mv], by simp [results, Tryd.f7, go_sem, c2], .slice none 0 0, by rw [HTE.out]; rfl, by rw [HTE.out]; exact RsG.nil _ _, ?_, Sl.nil, [], rfl, PrO.em (by have := (HM0.out.trans HM1.out).size; simpa [World.setCell] using this)⟩
    refine (HM0.out.trans HM1.out).setCell (fun h => ?_) _
    have : w.heap.size + 1 < w.heap.size := h
    omega
theorem Tidy_any (rs : List Rm) (v0 : Value) (w : World) (hs : SmallPm rs) (hr : RsAt w v0 rs) (hpw : Pow w) :
    Calls Tryd.prog 7 #[.agg #[v0]] w fun e w' => ∃ v, e = .returned (.tuple #[.agg #[v], .int .i64 (tidE (tidyL rs))]) ∧ RsG w' w.heap.size v (tidR (tidyL rs)) ∧ Mod (fun _ => False) w w' :=
  (TidyO_any rs v0 w hs hr hpw).mono fun e w' ⟨v, h1, h2, h3, _⟩ => ⟨v, h1, h2, h3⟩
end Go.Proofs.YtphgglnkdfndiaaDoor
