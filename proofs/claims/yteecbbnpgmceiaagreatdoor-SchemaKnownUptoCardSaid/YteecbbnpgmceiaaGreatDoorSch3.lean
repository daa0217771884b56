/-
  schema.first and schema.Safe, walked.
-/
import Derived.Test.YteecbbnpgmceiaaGreatDoorSafeG
namespace Go.Proofs.YteecbbnpgmceiaaGreatDoor
open Go Go.RowKit Go.Mine
set_option linter.unusedVariables false
set_option maxHeartbeats 4000000
set_option maxRecDepth 100000

theorem first_any (G : FuncId) (cs : Array Value) (f : Tm → Br) (hf : ∀ t, BrOk (f t)) (ts : List Tm) (s : Value) (lit : Int) (w : World) (ht : TsAt w s ts) (hn : ts.length < 2 ^ 30)
    (hcf : ∀ (args : Array Value) (w : World), (callFunc G args).run Tryz.prog w = .ok (.enter G args) w)
    (hG : ∀ t ∈ ts, ∀ v, Mod (fun _ => False) w v → Calls Tryz.prog G (#[tmV t] ++ cs) v fun e v' => e = .returned (brV (f t)) ∧ Mod (fun _ => False) v v') :
    Calls Tryz.prog 129 #[s, .int .i64 lit, .func (.func G) #[] cs] w fun e w' => e = .returned (brV (firstL f lit 0 ts)) ∧ Mod (fun _ => False) w w' := by
  obtain ⟨ad, c, rfl, hr⟩ := ht
  have HR := Lib.hid hr; have HG := Lib.hid hG
  have hb6 := heap_alloc_new w (.cells #[.int .i64 0, .int .i64 0, .int .i64 0, .string ⟨#[]⟩] 76)
  have hm6 : Mod (fun _ => False) w (w.alloc (.cells #[.int .i64 0, .int .i64 0, .int .i64 0, .string ⟨#[]⟩] 76)) := (Mod.refl _ w).alloc _
  have HB6 := Lib.hid hb6; have HM6 := Lib.hid hm6
  clear hr hG hb6 hm6
  go_enter Tryz.func129, Tryz.ntmps129
  go_wp2_with fail
  generalize w.alloc (.cells #[.int .i64 0, .int .i64 0, .int .i64 0, .string ⟨#[]⟩] 76) = w0 at *
  go_loopw [12] (fun iv wr => ∃ k : Nat, iv = .int .i64 k ∧ k ≤ ts.length ∧ Hid (Mod (fun _ => False) w wr) ∧ Hid (Mod (fun _ => False) w0 wr) ∧ Hid (firstL f lit 0 ts = firstL f lit k (ts.drop k))) (fun iv _ => ts.length - (intOf iv).toNat)
  case atStart => exact ⟨0, rfl, Nat.zero_le _, HM6, Lib.hid (Mod.refl _ _), rfl⟩
  case round =>
    obtain ⟨k, rfl, hk, hM, hM0, hL⟩ := hrel
    by_cases hlt : k < ts.length
    · obtain ⟨b, o, rfl, x0, x1⟩ := rd_cell2 (HR.out.mod hM.out (fun _ _ => id)) hlt
      have hd : ts.drop k = ts[k] :: ts.drop (k + 1) := List.drop_eq_getElem_cons hlt
      have HD := Lib.hid hd
      have HC := Lib.hid (fun v m => HG.out _ (List.getElem_mem hlt) v m)
      have hok := hf ts[k]
      have hst : firstL f lit 0 ts = if (f ts[k]).kind ≠ 0 then ⟨(f ts[k]).kind, lit, k, (f ts[k]).var⟩ else firstL f lit (k + 1) (ts.drop (k + 1)) := by rw [hL.out, HD.out]; rfl
      have HST := Lib.hid hst
      unfold tmV at HC
      clear hd hst
      have hmt : ∀ v z, Mod (fun _ => False) (wr.alloc z) v → Mod (fun _ => False) wr v := fun v z h => ((Mod.refl _ wr).alloc z).trans h
      have HMT := Lib.hid hmt
      clear hmt
      generalize ts[k] = t at *
      obtain ⟨tk, tx⟩ := t
      simp only at x0 x1 HC
      generalize f ⟨tk, tx⟩ = y at *
      obtain ⟨y1, y2, y3, y4⟩ := y
      unfold brV at HC
      simp only at HC HST
      rcases hok with hok | hok
      · simp only [br0, emptyB, Br.mk.injEq] at hok
        obtain ⟨rfl, rfl, rfl, rfl⟩ := hok
        have b0 := br_nz0
        go_wp2_with fail
        refine (HC.out _ (hM.out.trans ((Mod.refl _ wr).alloc _))).mono ?_
        rintro e w3 ⟨rfl, hM3⟩
        have hM4 := (HMT.out _ _ hM3).alloc (.cells #[.int .i64 0, .int .i64 0, .int .i64 0, .string ⟨#[]⟩] 76)
        have HM4 := Lib.hid hM4
        clear hM3 hM4
        go_wp2_with fail
        go_roundw
        case rel => exact ⟨k + 1, by go_num, hlt, Lib.hid (hM.out.trans HM4.out), Lib.hid (hM0.out.trans HM4.out), by unfold Hid; rw [HST.out, if_neg (by simp)]⟩
        case measure => simp [intOf]; omega
      · have b1 := fun w => br_nz hok y2 y3 y4 w
        simp only at hok
        go_wp2_with fail
        refine (HC.out _ (hM.out.trans ((Mod.refl _ wr).alloc _))).mono ?_
        rintro e w3 ⟨rfl, hM3⟩
        have hM4 := (HMT.out _ _ hM3).alloc (.cells #[.int .i64 y1, .int .i64 lit, .int .i64 k, .string y4] 76)
        have hb := (hM0.out.trans hM4).at HB6.out id
        have c0 := cell_at (j := 0) hb rfl
        have c1 := cell_at (j := 1) hb rfl
        have c2 := cell_at (j := 2) hb rfl
        have c3 := cell_at (j := 3) hb rfl
        have f0 := frozen_at (j := 0) hb
        have f1 := frozen_at (j := 1) hb
        have f2 := frozen_at (j := 2) hb
        have f3 := frozen_at (j := 3) hb
        have HSB := Lib.hid (store_br (⟨y1, lit, k, y4⟩ : Br) rfl hb (hM.out.trans hM4) (by omega))
        clear hb hM3 hM4
        go_wp2_with fail
        have hc := HSB.out.2
        have q0 := cell_at (j := 0) hc rfl
        have q1 := cell_at (j := 1) hc rfl
        have q2 := cell_at (j := 2) hc rfl
        have q3 := cell_at (j := 3) hc rfl
        have hmm := HSB.out.1
        have hfin := HST.out
        rw [if_pos hok] at hfin
        rw [hfin]
        clear hc HSB c0 c1 c2 c3 f0 f1 f2 f3
        refine bodyPost_ret (v := .agg #[.int .i64 y1, .int .i64 lit, .int .i64 k, .string y4]) ?_ rfl ⟨rfl, hmm⟩
        simp [results, Tryz.results129, go_sem, q0, q1, q2, q3]
    · obtain rfl : k = ts.length := by omega
      have hfin := hL.out
      rw [List.drop_length, firstL] at hfin
      have hb := hM0.out.at HB6.out id
      have c0 := cell_at (j := 0) hb rfl
      have c1 := cell_at (j := 1) hb rfl
      have c2 := cell_at (j := 2) hb rfl
      have c3 := cell_at (j := 3) hb rfl
      have f0 := frozen_at (j := 0) hb
      have f1 := frozen_at (j := 1) hb
      have f2 := frozen_at (j := 2) hb
      have f3 := frozen_at (j := 3) hb
      have HSB := Lib.hid (store_br br0 rfl hb hM.out (by omega))
      have HFI := Lib.hid hfin
      clear hb hfin
      go_wp2_with fail
      have hc := HSB.out.2
      have q0 := cell_at (j := 0) hc rfl
      have q1 := cell_at (j := 1) hc rfl
      have q2 := cell_at (j := 2) hc rfl
      have q3 := cell_at (j := 3) hc rfl
      have hmm := HSB.out.1
      clear hc HSB c0 c1 c2 c3 f0 f1 f2 f3
      refine bodyPost_ret (v := .agg #[.int .i64 0, .int .i64 0, .int .i64 0, .string ⟨#[]⟩]) ?_ rfl ⟨by rw [HFI.out]; rfl, hmm⟩
      unfold br0 emptyB at q0 q1 q2 q3
      simp only at q0 q1 q2 q3
      simp [results, Tryz.results129, go_sem, q0, q1, q2, q3]
/-- where the body's first breach is, from a literal on, one found ahead of it -/
def goB (ns : List ByteArray) (cur : Br) (i : Nat) (ls : List Lm) : Br := if cur.kind ≠ 0 then cur else bodyB ns i ls
theorem goB_step (ns : List ByteArray) (i : Nat) (l : Lm) (ls : List Lm) : goB ns br0 i (l :: ls) = goB ns (litB ns i l) (i + 1) ls := by
  unfold goB
  rw [if_neg (by simp [br0]), bodyB]
theorem goB_end {ns : List ByteArray} {cur : Br} (h : BrOk cur) (i : Nat) : goB ns cur i [] = cur := by
  unfold goB
  rcases h with rfl | h
  · rw [if_neg (by simp [br0])]; rfl
  · rw [if_pos h]
theorem goB_hit {ns : List ByteArray} {cur : Br} (h : cur.kind ≠ 0) (i : Nat) (ls : List Lm) : goB ns cur i ls = cur := by
  unfold goB
  rw [if_pos h]
def okBr (b : Br) : Bool := decide (b.kind = 0)
theorem Safe_any (r : Rm) (s b : Value) (w : World) (ht : TsAt w s r.head.terms) (hl : LsAt w b r.body) (hn0 : r.head.terms.length ≤ 2 ^ 20) (hn : r.body.length ≤ 2 ^ 20) (hn2 : ∀ l ∈ r.body, l.atom.terms.length ≤ 2 ^ 20) :
    Calls Tryz.prog 77 #[rmV r s b] w fun e w' => e = .returned (.tuple #[brV (safeB r), .bool (okBr (safeB r))]) ∧ Mod (fun _ => False) w w' := by
  have hsf : safeB r = goB (boundL r.body) (firstL (headF (boundL r.body) (bare r.body)) (-1) 0 r.head.terms) 0 r.body := rfl
  have hfo : BrOk (firstL (headF (boundL r.body) (bare r.body)) (-1) 0 r.head.terms) := firstL_ok _ _ _
  have hso := safeB_ok r
  have hbl := boundL_le hn2
  have hm1 : Mod (fun _ => False) w ((w.alloc (.cells #[.string r.head.pred, s, b] 46)).alloc (.cells #[.int .i64 0, .int .i64 0, .int .i64 0, .string ⟨#[]⟩] 76)) := ((Mod.refl _ w).alloc _).alloc _
  obtain ⟨hb1, hb2⟩ := two_new w (.cells #[.string r.head.pred, s, b] 46) (.cells #[.int .i64 0, .int .i64 0, .int .i64 0, .string ⟨#[]⟩] 76)
  have HBD := Lib.hid (bound_any r s b _ (hl.mod0 hm1) hn hn2)
  have HT := Lib.hid ht; have HL := Lib.hid hl
  have HBL : Hid ((boundL r.body).length ≤ 2 ^ 41) := Lib.hid (by
    have h2 : r.body.length * 2 ^ 20 ≤ 2 ^ 20 * 2 ^ 20 := Nat.mul_le_mul_right _ hn
    omega)
  have HSF := Lib.hid hsf; have HFO := Lib.hid hfo; have HSO := Lib.hid hso; have HN2 := Lib.hid hn2
  have hmf : ∀ (fn : Fn) (first cap : Array Value) (w : World), (Instr.makeFunc fn first cap).run Tryz.prog w = .ok (.func fn first cap) w := fun _ _ _ _ => rfl
  obtain ⟨⟨pr, hts⟩, ls⟩ := r
  unfold rmV at HBD ⊢
  simp only at *
  obtain ⟨sa, sc, rfl, _⟩ := ht
  obtain ⟨ba, bc, xs, rfl, hx, hr, hxt⟩ := hl
  have HX := Lib.hid hx; have HR := Lib.hid hr; have HXT := Lib.hid hxt
  clear hx hr hxt hsf hfo hso hbl hn2
  generalize safeB ⟨⟨pr, hts⟩, ls⟩ = fin at *
  generalize boundL ls = ns at *
  go_enter Tryz.func77, Tryz.ntmps77
  have c0 := cell_at (j := 0) hb1 rfl
  have c1 := cell_at (j := 1) hb1 rfl
  have c2 := cell_at (j := 2) hb1 rfl
  generalize hw1 : (w.alloc (.cells #[.string pr, .slice sa hts.length sc, .slice ba ls.length bc] 46)).alloc (.cells #[.int .i64 0, .int .i64 0, .int .i64 0, .string ⟨#[]⟩] 76) = w1 at *
  have HB1 := Lib.hid hb1; have HB2 := Lib.hid hb2; have HM1 := Lib.hid hm1
  clear hb1 hb2 hm1
  go_wp2_with fail
  refine HBD.out.mono ?_
  rintro e w2 ⟨na, nc, rfl, hO, hfr, hM2⟩
  obtain ⟨w3, hw3⟩ : ∃ v, v = w2.alloc (.cells #[.slice na ns.length nc] 93) := ⟨_, rfl⟩
  have hm3 : Mod (fun _ => False) w2 w3 := by rw [hw3]; exact (Mod.refl _ w2).alloc _
  have hN : NsAt w3 w2.heap.size ns na nc := ⟨by rw [hw3]; exact heap_alloc_new w2 _, hO.rd.mod hm3 (fun _ _ => id), HBL.out⟩
  have HM3 : Hid (Mod (fun _ => False) w1 w3) := Lib.hid (hM2.trans hm3)
  have HN := Lib.hid hN
  have hz12 : Hid (w1.heap.size ≤ w2.heap.size) := Lib.hid hM2.size
  have hnl : Hid (∀ q, blk na = some q → q < w2.heap.size) := hO.lt
  clear hO hfr hM2 hm3 hN HBD c0 c1 c2 hw1
  have hb := HM3.out.at HB1.out id
  have c1 := cell_at (j := 1) hb rfl
  have c2 := cell_at (j := 2) hb rfl
  have HFC := Lib.hid (first_any 130 #[.pointer (some ⟨w2.heap.size, 0, none⟩), .pointer (some ⟨w.heap.size, 0, none⟩)] (headF ns (bare ls)) (headF_ok ns (bare ls)) hts (.slice sa hts.length sc) (-1) w3 (HT.out.mod0 (HM1.out.trans HM3.out)) (by omega) (fun _ _ => by go_simp)
    (fun t ht v m => head_any t w2.heap.size ns na nc w.heap.size pr _ ba ls.length bc v (HN.out.mod m) (m.at hb id) (by omega)))
  generalize firstL (headF ns (bare ls)) (-1) 0 hts = cur at *
  obtain ⟨y1, y2, y3, y4⟩ := cur
  unfold brV at HFC
  simp only at HFC
  rw [hw3] at c1 c2
  clear hb
  go_wp2_with fail
  rw [← hw3]
  refine HFC.out.mono ?_
  rintro e w4 ⟨rfl, hM4⟩
  clear HFC c1 c2 hw3
  obtain ⟨w5, hw5⟩ : ∃ v, v = w4.alloc (.cells #[.int .i64 y1, .int .i64 y2, .int .i64 y3, .string y4] 76) := ⟨_, rfl⟩
  have hm5 : Mod (fun _ => False) w4 w5 := by rw [hw5]; exact (Mod.refl _ w4).alloc _
  have HB5 : Hid (w5.heap[w4.heap.size]? = some (.cells #[.int .i64 y1, .int .i64 y2, .int .i64 y3, .string y4] 76 (0, 0))) := Lib.hid (by rw [hw5]; exact heap_alloc_new w4 _)
  have HM5 : Hid (Mod (fun _ => False) w1 w5) := Lib.hid (HM3.out.trans (hM4.trans hm5))
  have HN5 := Lib.hid (HN.out.mod (hM4.trans hm5))
  have HNLT : Hid (∀ q, blk na = some q → q < w4.heap.size) := Lib.hid (fun q hq => by have h1 := hnl.out q hq; have h2 : w2.heap.size < w3.heap.size := (Array.getElem?_eq_some_iff.1 HN.out.box).1; have h3 := hM4.size; omega)
  have HZ : Hid (w.heap.size + 2 ≤ w1.heap.size ∧ w1.heap.size ≤ w2.heap.size ∧ w2.heap.size < w4.heap.size ∧ w4.heap.size < w5.heap.size) := Lib.hid (by
    have h1 : w.heap.size + 1 < w1.heap.size := (Array.getElem?_eq_some_iff.1 HB2.out).1
    have h2 := HM3.out.size
    have h3 := HN.out.box
    have h4 : w2.heap.size < w3.heap.size := (Array.getElem?_eq_some_iff.1 h3).1
    have h5 := hM4.size
    have h6 : w4.heap.size < w5.heap.size := (Array.getElem?_eq_some_iff.1 HB5.out).1
    have h7 := hz12.out
    omega)
  clear hM4 hm5 HN HM3
  have hb := HM5.out.at HB1.out id
  have c2 := cell_at (j := 2) hb rfl
  rw [hw5] at c2
  clear hb
  go_wp2_with fail
  rw [← hw5]
  clear hw5 c2
  go_loopw [18] (fun iv wr => ∃ (i : Nat) (z1 z2 z3 : Int) (z4 : ByteArray), iv = .int .i64 i ∧ i ≤ ls.length ∧ Hid (BrOk ⟨z1, z2, z3, z4⟩) ∧ Hid (wr.heap[w4.heap.size]? = some (.cells #[.int .i64 z1, .int .i64 z2, .int .i64 z3, .string z4] 76 (0, 0))) ∧
      Hid (fin = goB ns ⟨z1, z2, z3, z4⟩ i (ls.drop i)) ∧ Hid (Mod (fun b => b = w4.heap.size) w5 wr)) (fun iv _ => ls.length - (intOf iv).toNat)
  case atStart => exact ⟨0, y1, y2, y3, y4, rfl, Nat.zero_le _, HFO, HB5, HSF, Lib.hid (Mod.refl _ w5)⟩
  case round =>
    obtain ⟨i, z1, z2, z3, z4, rfl, hi, hok, hB, hF, hM⟩ := hrel
    have HMW : Hid (Mod (fun _ => False) w wr) := Lib.hid ((HM1.out.trans HM5.out).step hM.out (fun j hj e => by have e : j = w4.heap.size := e; have := HZ.out; omega))
    by_cases hlt : i < ls.length
    · obtain ⟨sk1, hx1, hmem1⟩ := xs_get HX.out hlt
      obtain ⟨b1, o1, rfl, x0, x1, x2, x3, x4, x5, x6, x7⟩ := rd_cell8 (HR.out.mod HMW.out (fun _ _ => id)) hx1
      have htn := HN2.out _ (List.getElem_mem hlt)
      have HTS := Lib.hid (HXT.out _ hmem1)
      obtain ⟨sl, slc, hsk, _⟩ := HXT.out _ hmem1
      simp only at hsk
      subst hsk
      have hd : ls.drop i = ls[i] :: ls.drop (i + 1) := List.drop_eq_getElem_cons hlt
      have HD := Lib.hid hd
      clear hx1 hmem1 hd
      generalize ls[i] = t at *
      obtain ⟨lk, ⟨lp, lts⟩, lo, ⟨ll1, ll2⟩, ⟨lr1, lr2⟩⟩ := t
      simp only at *
      rcases hok.out with h0 | h0
      · simp only [br0, emptyB, Br.mk.injEq] at h0
        obtain ⟨rfl, rfl, rfl, rfl⟩ := h0
        have bz := br_nz0
        have hF2 := hF.out
        rw [HD.out, show (⟨0, 0, 0, ⟨#[]⟩⟩ : Br) = br0 from rfl, goB_step] at hF2
        have HF2 := Lib.hid hF2
        clear hF2
        have hal : Mod (fun _ => False) wr (wr.alloc (.cells #[.int .i64 lk, .string lp, .slice sl lts.length slc, .int .i64 lo, .int .i64 ll1, .string ll2, .int .i64 lr1, .string lr2] 102)) := (Mod.refl _ wr).alloc _
        have hBa := hal.at hB.out id
        have d0 := cell_at (j := 0) hBa rfl
        have d1 := cell_at (j := 1) hBa rfl
        have d2 := cell_at (j := 2) hBa rfl
        have d3 := cell_at (j := 3) hBa rfl
        have HBA := Lib.hid hBa; have HAL := Lib.hid hal
        have HMA : Hid (Mod (fun _ => False) w (wr.alloc (.cells #[.int .i64 lk, .string lp, .slice sl lts.length slc, .int .i64 lo, .int .i64 ll1, .string ll2, .int .i64 lr1, .string lr2] 102))) := Lib.hid (HMW.out.trans hal)
        have HNA : Hid (NsAt (wr.alloc (.cells #[.int .i64 lk, .string lp, .slice sl lts.length slc, .int .i64 lo, .int .i64 ll1, .string ll2, .int .i64 lr1, .string lr2] 102)) w2.heap.size ns na nc) := Lib.hid (by
          have h := HN5.out
          have hz := HZ.out
          exact ⟨hal.at (hM.out.at h.box (fun e => by have e : w2.heap.size = w4.heap.size := e; omega)) id, (h.rd.mod hM.out (fun q hq e => by
            have e : q = w4.heap.size := e
            have := HNLT.out q hq
            omega)).mod hal (fun _ _ => id), h.few⟩)
        clear hBa hal
        by_cases h2 : lk = 2
        · subst h2
          have HFC := Lib.hid (first_any 132 #[.pointer (some ⟨w2.heap.size, 0, none⟩)] (negF ns) (negF_ok ns) lts (.slice sl lts.length slc) i _ (HTS.out.mod0 HMA.out) (by omega) (fun _ _ => by go_simp)
            (fun t ht v m => neg_any t w2.heap.size ns na nc v (HNA.out.mod m)))
          have hlb : litB ns i ⟨2, ⟨lp, lts⟩, lo, ⟨ll1, ll2⟩, ⟨lr1, lr2⟩⟩ = firstL (negF ns) i 0 lts := by unfold litB; rw [if_pos rfl]
          rw [hlb] at HF2
          have hok2 := firstL_ok (f := negF ns) (i : Int) 0 lts
          generalize firstL (negF ns) i 0 lts = y at *
          clear hlb
          obtain ⟨y1, y2, y3, y4⟩ := y
          unfold brV at HFC
          simp only at HFC
          go_wp2_with fail
          refine HFC.out.mono ?_
          rintro e w6 ⟨rfl, hM6⟩
          have hM6' := ( hM6)
          have hb6 := hM6'.at HBA.out id
          have c0 := cell_at (j := 0) hb6 rfl
          have c1 := cell_at (j := 1) hb6 rfl
          have c2 := cell_at (j := 2) hb6 rfl
          have c3 := cell_at (j := 3) hb6 rfl
          have f0 := frozen_at (j := 0) hb6
          have f1 := frozen_at (j := 1) hb6
          have f2 := frozen_at (j := 2) hb6
          have f3 := frozen_at (j := 3) hb6
          have HSB := Lib.hid (store_br (S := fun b => b = w4.heap.size) (⟨y1, y2, y3, y4⟩ : Br) rfl hb6 (hM.out.step (HAL.out.trans hM6') (fun _ _ h => h.elim)) (fun _ => rfl))
          clear hb6 hM6 hM6' HFC d0 d1 d2 d3
          go_wp2_with fail
          go_roundw
          case rel => exact ⟨i + 1, y1, y2, y3, y4, by go_num, hlt, Lib.hid hok2, Lib.hid HSB.out.2, HF2, Lib.hid HSB.out.1⟩
          case measure => simp [intOf]; omega
        · by_cases h3 : lk = 3
          · subst h3
            have hr2 : TsAt ((wr.alloc (.cells #[.int .i64 3, .string lp, .slice sl lts.length slc, .int .i64 lo, .int .i64 ll1, .string ll2, .int .i64 lr1, .string lr2] 102)).alloc (.cells #[.int .i64 ll1, .string ll2, .int .i64 lr1, .string lr2] 100)) (.slice (some ⟨(wr.alloc (.cells #[.int .i64 3, .string lp, .slice sl lts.length slc, .int .i64 lo, .int .i64 ll1, .string ll2, .int .i64 lr1, .string lr2] 102)).heap.size, 0, none⟩) 2 2) [⟨ll1, ll2⟩, ⟨lr1, lr2⟩] :=
              ⟨_, _, rfl, Rd.news _ [.int .i64 ll1, .string ll2, .int .i64 lr1, .string lr2] _⟩
            have hm8 : Mod (fun _ => False) (wr.alloc (.cells #[.int .i64 3, .string lp, .slice sl lts.length slc, .int .i64 lo, .int .i64 ll1, .string ll2, .int .i64 lr1, .string lr2] 102)) ((wr.alloc (.cells #[.int .i64 3, .string lp, .slice sl lts.length slc, .int .i64 lo, .int .i64 ll1, .string ll2, .int .i64 lr1, .string lr2] 102)).alloc (.cells #[.int .i64 ll1, .string ll2, .int .i64 lr1, .string lr2] 100)) := (Mod.refl _ _).alloc _
            have HFC := Lib.hid (first_any 133 #[.pointer (some ⟨w2.heap.size, 0, none⟩)] (cmpF ns) (cmpF_ok ns) [⟨ll1, ll2⟩, ⟨lr1, lr2⟩] _ i _ hr2 (by simp) (fun _ _ => by go_simp)
              (fun t ht v m => cmp_any t w2.heap.size ns na nc v (HNA.out.mod (hm8.trans m))))
            have hlb : litB ns i ⟨3, ⟨lp, lts⟩, lo, ⟨ll1, ll2⟩, ⟨lr1, lr2⟩⟩ = firstL (cmpF ns) i 0 [⟨ll1, ll2⟩, ⟨lr1, lr2⟩] := by unfold litB; rw [if_neg (by simp), if_pos rfl]
            rw [hlb] at HF2
            have hok2 := firstL_ok (f := cmpF ns) (i : Int) 0 [⟨ll1, ll2⟩, ⟨lr1, lr2⟩]
            generalize firstL (cmpF ns) i 0 [⟨ll1, ll2⟩, ⟨lr1, lr2⟩] = y at *
            have HM8 := Lib.hid hm8
            rw [World.size_alloc] at HFC
            clear hlb hm8 hr2
            obtain ⟨y1, y2, y3, y4⟩ := y
            unfold brV at HFC
            simp only at HFC
            go_wp2_with fail
            refine HFC.out.mono ?_
            rintro e w6 ⟨rfl, hM6⟩
            have hM6' := (HM8.out.trans hM6)
            have hb6 := hM6'.at HBA.out id
            have c0 := cell_at (j := 0) hb6 rfl
            have c1 := cell_at (j := 1) hb6 rfl
            have c2 := cell_at (j := 2) hb6 rfl
            have c3 := cell_at (j := 3) hb6 rfl
            have f0 := frozen_at (j := 0) hb6
            have f1 := frozen_at (j := 1) hb6
            have f2 := frozen_at (j := 2) hb6
            have f3 := frozen_at (j := 3) hb6
            have HSB := Lib.hid (store_br (S := fun b => b = w4.heap.size) (⟨y1, y2, y3, y4⟩ : Br) rfl hb6 (hM.out.step (HAL.out.trans hM6') (fun _ _ h => h.elim)) (fun _ => rfl))
            clear hb6 hM6 hM6' HFC d0 d1 d2 d3
            go_wp2_with fail
            go_roundw
            case rel => exact ⟨i + 1, y1, y2, y3, y4, by go_num, hlt, Lib.hid hok2, Lib.hid HSB.out.2, HF2, Lib.hid HSB.out.1⟩
            case measure => simp [intOf]; omega
          · have e2 : (lk == 2) = false := by simpa using h2
            have e3 : (lk == 3) = false := by simpa using h3
            have hlb : litB ns i ⟨lk, ⟨lp, lts⟩, lo, ⟨ll1, ll2⟩, ⟨lr1, lr2⟩⟩ = br0 := by unfold litB; rw [if_neg h2, if_neg h3]
            rw [hlb] at HF2
            clear hlb
            go_wp2_with fail
            go_roundw
            case rel => exact ⟨i + 1, 0, 0, 0, ⟨#[]⟩, by go_num, hlt, Lib.hid br0_ok, HBA, HF2, Lib.hid (hM.out.trans (HAL.out.mono (fun _ _ h => h.elim)))⟩
            case measure => simp [intOf]; omega
      · have bz := fun w => br_nz h0 z2 z3 z4 w
        have bz2 := fun w => br_ez h0 z2 z3 z4 w
        have hfin := hF.out
        rw [goB_hit h0] at hfin
        subst hfin
        have hal : Mod (fun _ => False) wr (wr.alloc (.cells #[.int .i64 lk, .string lp, .slice sl lts.length slc, .int .i64 lo, .int .i64 ll1, .string ll2, .int .i64 lr1, .string lr2] 102)) := (Mod.refl _ wr).alloc _
        obtain ⟨hB, hM, HMW⟩ : Hid ((wr.alloc (.cells #[.int .i64 lk, .string lp, .slice sl lts.length slc, .int .i64 lo, .int .i64 ll1, .string ll2, .int .i64 lr1, .string lr2] 102)).heap[w4.heap.size]? = some (.cells #[.int .i64 z1, .int .i64 z2, .int .i64 z3, .string z4] 76 (0, 0))) ∧ Hid (Mod (fun b => b = w4.heap.size) w5 (wr.alloc (.cells #[.int .i64 lk, .string lp, .slice sl lts.length slc, .int .i64 lo, .int .i64 ll1, .string ll2, .int .i64 lr1, .string lr2] 102))) ∧ Hid (Mod (fun _ => False) w (wr.alloc (.cells #[.int .i64 lk, .string lp, .slice sl lts.length slc, .int .i64 lo, .int .i64 ll1, .string ll2, .int .i64 lr1, .string lr2] 102))) :=
          ⟨Lib.hid (hal.at hB.out id), Lib.hid (hM.out.trans (hal.mono (fun _ _ h => h.elim))), Lib.hid (HMW.out.trans hal)⟩
        clear hal
        have d0 := cell_at (j := 0) hB.out rfl
        have d1 := cell_at (j := 1) hB.out rfl
        have d2 := cell_at (j := 2) hB.out rfl
        have d3 := cell_at (j := 3) hB.out rfl
        have hb2 : (wr.alloc (.cells #[.int .i64 lk, .string lp, .slice sl lts.length slc, .int .i64 lo, .int .i64 ll1, .string ll2, .int .i64 lr1, .string lr2] 102)).heap[w.heap.size + 1]? = some (.cells #[.int .i64 0, .int .i64 0, .int .i64 0, .string ⟨#[]⟩] 76 (0, 0)) := hM.out.at (HM5.out.at HB2.out id) (fun e => by have := HZ.out; omega)
        have c0 := cell_at (j := 0) hb2 rfl
        have c1 := cell_at (j := 1) hb2 rfl
        have c2 := cell_at (j := 2) hb2 rfl
        have c3 := cell_at (j := 3) hb2 rfl
        have f0 := frozen_at (j := 0) hb2
        have f1 := frozen_at (j := 1) hb2
        have f2 := frozen_at (j := 2) hb2
        have f3 := frozen_at (j := 3) hb2
        have HSB := Lib.hid (store_br (⟨z1, z2, z3, z4⟩ : Br) rfl hb2 HMW.out (by omega))
        have HSS := Lib.hid (store_br (S := fun b => b = w.heap.size + 1) (⟨z1, z2, z3, z4⟩ : Br) rfl hb2 (Mod.refl _ (wr.alloc (.cells #[.int .i64 lk, .string lp, .slice sl lts.length slc, .int .i64 lo, .int .i64 ll1, .string ll2, .int .i64 lr1, .string lr2] 102))) (fun _ => rfl)).1.drew
        have hne : ¬ w4.heap.size = w.heap.size + 1 := fun e => by have := HZ.out; omega
        clear hb2
        go_wp2_with fail
        refine wp_region_ord (fun W => W.cell? ⟨w4.heap.size, 0, none⟩ = some (.int .i64 (z1)) ∧ W.cell? ⟨w4.heap.size, 1, none⟩ = some (.int .i64 (z2)) ∧ W.cell? ⟨w4.heap.size, 2, none⟩ = some (.int .i64 (z3)) ∧ W.cell? ⟨w4.heap.size, 3, none⟩ = some (.string (z4))) [(1, 0), (1, 1), (0, 2), (0, 3), (2, 4), (0, 5)] (by kernel_rfl) (by kernel_rfl) ?_
        go_wp2_with (first
          | (refine ord_pure rfl rfl rfl (fun K hK => ?_); go_big_quiet_op; refine hK _ ?_; clear hK K)
                                                                | (refine ord_skip rfl rfl ?_; simp only [Act.put, List.setIfInBounds_toArray, List.set_cons_zero, List.set_cons_succ])
                                                                | (refine ord_held rfl rfl rfl (⟨d0, d1, d2, d3⟩) (fun K hK => ?_); apply Exists.intro; refine ⟨fun w' hs => ?_, hK _ ?_⟩; (revert hs; dsimp only; (try simp only [and_imp]); intros; go_simp; rfl); clear hK K)
                                                                | (refine ord_keep rfl rfl (⟨d0, d1, d2, d3⟩) (fun K hK => ?_))
                                                                | (refine ord_drop rfl rfl (fun K hK => ?_))
                                                                | (refine ord_nil ?_))
        have e0 := HSS.out.cell d0 hne; have e1 := HSS.out.cell d1 hne; have e2 := HSS.out.cell d2 hne; have e3 := HSS.out.cell d3 hne
        clear d0 d1 d2 d3 c0 c1 c2 c3 f0 f1 f2 f3 HSS
        refine hK _ _ ⟨e0, e1, e2, e3⟩ ?_
        clear hK K e0 e1 e2 e3
        go_wp2_with (first
          | (refine ord_pure rfl rfl rfl (fun K hK => ?_); go_big_quiet_op; refine hK _ ?_; clear hK K)
                                                                | (refine ord_skip rfl rfl ?_; simp only [Act.put, List.setIfInBounds_toArray, List.set_cons_zero, List.set_cons_succ])
                                                                | (refine ord_held rfl rfl rfl (trivial) (fun K hK => ?_); apply Exists.intro; refine ⟨fun w' hs => ?_, hK _ ?_⟩; (revert hs; dsimp only; (try simp only [and_imp]); intros; go_simp; rfl); clear hK K)
                                                                | (refine ord_keep rfl rfl (trivial) (fun K hK => ?_))
                                                                | (refine ord_drop rfl rfl (fun K hK => ?_))
                                                                | (refine ord_nil ?_))
        have hc := HSB.out.2
        have q0 := cell_at (j := 0) hc rfl
        have q1 := cell_at (j := 1) hc rfl
        have q2 := cell_at (j := 2) hc rfl
        have q3 := cell_at (j := 3) hc rfl
        have hmm := HSB.out.1.drew
        clear hc HSB
        refine bodyPost_ret (v := .tuple #[.agg #[.int .i64 (z1), .int .i64 (z2), .int .i64 (z3), .string (z4)], .bool false]) ?_ rfl ⟨?_, hmm⟩
        · simp [results, Tryz.results77, go_sem, q0, q1, q2, q3]
        · have e : okBr ⟨z1, z2, z3, z4⟩ = false := by unfold okBr; exact decide_eq_false h0
          rw [e]; rfl
    · obtain rfl : i = ls.length := by omega
      have hfin := hF.out
      rw [List.drop_length, goB_end hok.out] at hfin
      subst hfin
      rcases hok.out with h0 | h0
      · simp only [br0, emptyB, Br.mk.injEq] at h0
        obtain ⟨rfl, rfl, rfl, rfl⟩ := h0
        have bz := br_ez0
        have d0 := cell_at (j := 0) hB.out rfl
        have d1 := cell_at (j := 1) hB.out rfl
        have d2 := cell_at (j := 2) hB.out rfl
        have d3 := cell_at (j := 3) hB.out rfl
        have hb2 : (wr).heap[w.heap.size + 1]? = some (.cells #[.int .i64 0, .int .i64 0, .int .i64 0, .string ⟨#[]⟩] 76 (0, 0)) := hM.out.at (HM5.out.at HB2.out id) (fun e => by have := HZ.out; omega)
        have c0 := cell_at (j := 0) hb2 rfl
        have c1 := cell_at (j := 1) hb2 rfl
        have c2 := cell_at (j := 2) hb2 rfl
        have c3 := cell_at (j := 3) hb2 rfl
        have f0 := frozen_at (j := 0) hb2
        have f1 := frozen_at (j := 1) hb2
        have f2 := frozen_at (j := 2) hb2
        have f3 := frozen_at (j := 3) hb2
        have HSB := Lib.hid (store_br (⟨0, 0, 0, ⟨#[]⟩⟩ : Br) rfl hb2 HMW.out (by omega))
        have HSS := Lib.hid (store_br (S := fun b => b = w.heap.size + 1) (⟨0, 0, 0, ⟨#[]⟩⟩ : Br) rfl hb2 (Mod.refl _ (wr)) (fun _ => rfl)).1.drew
        have hne : ¬ w4.heap.size = w.heap.size + 1 := fun e => by have := HZ.out; omega
        clear hb2
        go_wp2_with fail
        refine wp_region_ord (fun W => W.cell? ⟨w4.heap.size, 0, none⟩ = some (.int .i64 (0)) ∧ W.cell? ⟨w4.heap.size, 1, none⟩ = some (.int .i64 (0)) ∧ W.cell? ⟨w4.heap.size, 2, none⟩ = some (.int .i64 (0)) ∧ W.cell? ⟨w4.heap.size, 3, none⟩ = some (.string (⟨#[]⟩))) [(1, 0), (1, 1), (0, 2), (0, 3), (2, 4), (0, 5)] (by kernel_rfl) (by kernel_rfl) ?_
        go_wp2_with (first
          | (refine ord_pure rfl rfl rfl (fun K hK => ?_); go_big_quiet_op; refine hK _ ?_; clear hK K)
                                                                | (refine ord_skip rfl rfl ?_; simp only [Act.put, List.setIfInBounds_toArray, List.set_cons_zero, List.set_cons_succ])
                                                                | (refine ord_held rfl rfl rfl (⟨d0, d1, d2, d3⟩) (fun K hK => ?_); apply Exists.intro; refine ⟨fun w' hs => ?_, hK _ ?_⟩; (revert hs; dsimp only; (try simp only [and_imp]); intros; go_simp; rfl); clear hK K)
                                                                | (refine ord_keep rfl rfl (⟨d0, d1, d2, d3⟩) (fun K hK => ?_))
                                                                | (refine ord_drop rfl rfl (fun K hK => ?_))
                                                                | (refine ord_nil ?_))
        have e0 := HSS.out.cell d0 hne; have e1 := HSS.out.cell d1 hne; have e2 := HSS.out.cell d2 hne; have e3 := HSS.out.cell d3 hne
        clear d0 d1 d2 d3 c0 c1 c2 c3 f0 f1 f2 f3 HSS
        refine hK _ _ ⟨e0, e1, e2, e3⟩ ?_
        clear hK K e0 e1 e2 e3
        go_wp2_with (first
          | (refine ord_pure rfl rfl rfl (fun K hK => ?_); go_big_quiet_op; refine hK _ ?_; clear hK K)
                                                                | (refine ord_skip rfl rfl ?_; simp only [Act.put, List.setIfInBounds_toArray, List.set_cons_zero, List.set_cons_succ])
                                                                | (refine ord_held rfl rfl rfl (trivial) (fun K hK => ?_); apply Exists.intro; refine ⟨fun w' hs => ?_, hK _ ?_⟩; (revert hs; dsimp only; (try simp only [and_imp]); intros; go_simp; rfl); clear hK K)
                                                                | (refine ord_keep rfl rfl (trivial) (fun K hK => ?_))
                                                                | (refine ord_drop rfl rfl (fun K hK => ?_))
                                                                | (refine ord_nil ?_))
        have hc := HSB.out.2
        have q0 := cell_at (j := 0) hc rfl
        have q1 := cell_at (j := 1) hc rfl
        have q2 := cell_at (j := 2) hc rfl
        have q3 := cell_at (j := 3) hc rfl
        have hmm := HSB.out.1.drew
        clear hc HSB
        refine bodyPost_ret (v := .tuple #[.agg #[.int .i64 (0), .int .i64 (0), .int .i64 (0), .string (⟨#[]⟩)], .bool true]) ?_ rfl ⟨?_, hmm⟩
        · simp [results, Tryz.results77, go_sem, q0, q1, q2, q3]
        · rfl
      · have bz := fun w => br_ez h0 z2 z3 z4 w
        have d0 := cell_at (j := 0) hB.out rfl
        have d1 := cell_at (j := 1) hB.out rfl
        have d2 := cell_at (j := 2) hB.out rfl
        have d3 := cell_at (j := 3) hB.out rfl
        have hb2 : (wr).heap[w.heap.size + 1]? = some (.cells #[.int .i64 0, .int .i64 0, .int .i64 0, .string ⟨#[]⟩] 76 (0, 0)) := hM.out.at (HM5.out.at HB2.out id) (fun e => by have := HZ.out; omega)
        have c0 := cell_at (j := 0) hb2 rfl
        have c1 := cell_at (j := 1) hb2 rfl
        have c2 := cell_at (j := 2) hb2 rfl
        have c3 := cell_at (j := 3) hb2 rfl
        have f0 := frozen_at (j := 0) hb2
        have f1 := frozen_at (j := 1) hb2
        have f2 := frozen_at (j := 2) hb2
        have f3 := frozen_at (j := 3) hb2
        have HSB := Lib.hid (store_br (⟨z1, z2, z3, z4⟩ : Br) rfl hb2 HMW.out (by omega))
        have HSS := Lib.hid (store_br (S := fun b => b = w.heap.size + 1) (⟨z1, z2, z3, z4⟩ : Br) rfl hb2 (Mod.refl _ (wr)) (fun _ => rfl)).1.drew
        have hne : ¬ w4.heap.size = w.heap.size + 1 := fun e => by have := HZ.out; omega
        clear hb2
        go_wp2_with fail
        refine wp_region_ord (fun W => W.cell? ⟨w4.heap.size, 0, none⟩ = some (.int .i64 (z1)) ∧ W.cell? ⟨w4.heap.size, 1, none⟩ = some (.int .i64 (z2)) ∧ W.cell? ⟨w4.heap.size, 2, none⟩ = some (.int .i64 (z3)) ∧ W.cell? ⟨w4.heap.size, 3, none⟩ = some (.string (z4))) [(1, 0), (1, 1), (0, 2), (0, 3), (2, 4), (0, 5)] (by kernel_rfl) (by kernel_rfl) ?_
        go_wp2_with (first
          | (refine ord_pure rfl rfl rfl (fun K hK => ?_); go_big_quiet_op; refine hK _ ?_; clear hK K)
                                                                | (refine ord_skip rfl rfl ?_; simp only [Act.put, List.setIfInBounds_toArray, List.set_cons_zero, List.set_cons_succ])
                                                                | (refine ord_held rfl rfl rfl (⟨d0, d1, d2, d3⟩) (fun K hK => ?_); apply Exists.intro; refine ⟨fun w' hs => ?_, hK _ ?_⟩; (revert hs; dsimp only; (try simp only [and_imp]); intros; go_simp; rfl); clear hK K)
                                                                | (refine ord_keep rfl rfl (⟨d0, d1, d2, d3⟩) (fun K hK => ?_))
                                                                | (refine ord_drop rfl rfl (fun K hK => ?_))
                                                                | (refine ord_nil ?_))
        have e0 := HSS.out.cell d0 hne; have e1 := HSS.out.cell d1 hne; have e2 := HSS.out.cell d2 hne; have e3 := HSS.out.cell d3 hne
        clear d0 d1 d2 d3 c0 c1 c2 c3 f0 f1 f2 f3 HSS
        refine hK _ _ ⟨e0, e1, e2, e3⟩ ?_
        clear hK K e0 e1 e2 e3
        go_wp2_with (first
          | (refine ord_pure rfl rfl rfl (fun K hK => ?_); go_big_quiet_op; refine hK _ ?_; clear hK K)
                                                                | (refine ord_skip rfl rfl ?_; simp only [Act.put, List.setIfInBounds_toArray, List.set_cons_zero, List.set_cons_succ])
                                                                | (refine ord_held rfl rfl rfl (trivial) (fun K hK => ?_); apply Exists.intro; refine ⟨fun w' hs => ?_, hK _ ?_⟩; (revert hs; dsimp only; (try simp only [and_imp]); intros; go_simp; rfl); clear hK K)
                                                                | (refine ord_keep rfl rfl (trivial) (fun K hK => ?_))
                                                                | (refine ord_drop rfl rfl (fun K hK => ?_))
                                                                | (refine ord_nil ?_))
        have hc := HSB.out.2
        have q0 := cell_at (j := 0) hc rfl
        have q1 := cell_at (j := 1) hc rfl
        have q2 := cell_at (j := 2) hc rfl
        have q3 := cell_at (j := 3) hc rfl
        have hmm := HSB.out.1.drew
        clear hc HSB
        refine bodyPost_ret (v := .tuple #[.agg #[.int .i64 (z1), .int .i64 (z2), .int .i64 (z3), .string (z4)], .bool false]) ?_ rfl ⟨?_, hmm⟩
        · simp [results, Tryz.results77, go_sem, q0, q1, q2, q3]
        · have e : okBr ⟨z1, z2, z3, z4⟩ = false := by unfold okBr; exact decide_eq_false h0
          rw [e]; rfl
end Go.Proofs.YteecbbnpgmceiaaGreatDoor
