/-
  schema.Check, walked.
-/
import Derived.Test.YteecbbnpgmceiaaGreatDoorSch3
import Derived.Test.YteecbbnpgmceiaaGreatDoorSch5
import Derived.Test.YteecbbnpgmceiaaGreatDoorMayG
namespace Go.Proofs.YteecbbnpgmceiaaGreatDoor
open Go Go.RowKit Go.Mine
set_option linter.unusedVariables false
set_option maxHeartbeats 4000000
set_option maxRecDepth 100000

/-- what schema asks of a rule's size -/
structure SchOk (r : Rm) : Prop where
  sm : SmallRm r
  u : SmallU r
  h0 : r.head.terms.length ≤ 2 ^ 20
  b0 : r.body.length ≤ 2 ^ 20
  t0 : ∀ l ∈ r.body, l.atom.terms.length ≤ 2 ^ 20
theorem ckB (i : Nat) (z : Int) : True := trivial
theorem Check_any (rs : List Rm) (v0 : Value) (w : World) (hr : RsAt w v0 rs) (hn : rs.length < 2 ^ 30) (hs : ∀ r ∈ rs, SchOk r) :
    Calls Tryz.prog 76 #[.agg #[v0]] w fun e w' => e = .returned (.tuple #[.int .i64 (checkL rs).1, .int .i64 (checkL rs).2]) ∧ Mod (fun _ => False) w w' := by
  obtain ⟨ad, c, xv, rfl, hx, hrx, hxt⟩ := hr
  have HX := Lib.hid hx; have HR := Lib.hid hrx; have HXT := Lib.hid hxt; have HS := Lib.hid hs
  have hb1 := heap_alloc_new w (.cells #[.slice ad rs.length c] 24)
  have hm1 : Mod (fun _ => False) w (w.alloc (.cells #[.slice ad rs.length c] 24)) := (Mod.refl _ w).alloc _
  have c1 := cell_at (j := 0) hb1 rfl
  clear hx hrx hxt hs
  by_cases hlong : 1024 < rs.length
  · have e : checkL rs = (0, 81) := by unfold checkL; rw [if_pos hlong]
    rw [e]
    have e1 : (decide ((1024 : Int) < rs.length)) = true := decide_eq_true (by omega)
    go_enter Tryz.func76, Tryz.ntmps76
    go_wp2
    exact bodyPost_ret (results_tmp2 rfl _ _ _) rfl ⟨rfl, hm1⟩
  · have e : checkL rs = checkGo 0 [] rs := by unfold checkL; rw [if_neg hlong]
    rw [e]
    have e1 : (decide ((1024 : Int) < rs.length)) = false := decide_eq_false (by omega)
    have hmm := @run_makeMap Tryz.prog
    obtain ⟨w2, hw2⟩ : ∃ v, v = (w.alloc (.cells #[.slice ad rs.length c] 24)).alloc (.map #[] 0) := ⟨_, rfl⟩
    have c2 : ((w.alloc (.cells #[.slice ad rs.length c] 24)).alloc (.map #[] 0)).cell? ⟨w.heap.size, 0, none⟩ = some (.slice ad rs.length c) := cell_old c1
    have hA0 : ArMap w2 (w.heap.size + 1) [] := by
      have h := ArMap.made (w.alloc (.cells #[.slice ad rs.length c] 24))
      rw [World.size_alloc] at h
      rw [hw2]; exact h
    have HM2 : Hid (Mod (fun _ => False) w w2) := Lib.hid (by rw [hw2]; exact hm1.alloc _)
    have HA0 := Lib.hid hA0
    clear hb1 hm1 hA0
    go_enter Tryz.func76, Tryz.ntmps76
    go_wp2_with fail
    rw [← hw2]
    clear hw2 c1 c2 hmm e e1
    go_loopw [18] (fun iv wr => ∃ (k : Nat) (L : Ar), iv = .int .i64 k ∧ k ≤ rs.length ∧ L.length ≤ 512 ∧ Hid (ArMap wr (w.heap.size + 1) L) ∧ Hid (checkGo 0 [] rs = checkGo k L (rs.drop k)) ∧ Hid (Mod (fun _ => False) w wr)) (fun iv _ => rs.length - (intOf iv).toNat)
    case atStart => exact ⟨0, [], rfl, Nat.zero_le _, by simp, HA0, rfl, HM2⟩
    case round =>
      obtain ⟨k, L, rfl, hk, hL, hA, hC, hM⟩ := hrel
      by_cases hlt : k < rs.length
      · obtain ⟨⟨sk, bk⟩, hx, hmem⟩ := xs_get HX.out hlt
        obtain ⟨bb, o, rfl, x0, x1, x2⟩ := rd_cellR (HR.out.mod hM.out (fun _ _ => id)) hx
        have hok := HS.out _ (List.getElem_mem hlt)
        have HT0 := Lib.hid (HXT.out _ hmem)
        have HTS := Lib.hid ((HXT.out _ hmem).1.mod0 hM.out)
        have HLS := Lib.hid ((HXT.out _ hmem).2.mod0 hM.out)
        have hd : rs.drop k = rs[k] :: rs.drop (k + 1) := List.drop_eq_getElem_cons hlt
        have hc := hC.out
        rw [hd, checkGo] at hc
        clear hx hmem hd
        generalize rs[k] = t at *
        obtain ⟨⟨pr, hts⟩, ls⟩ := t
        obtain ⟨sa, sc, hsk⟩ : ∃ sa sc, sk = .slice sa hts.length sc := by obtain ⟨sa, sc, e, _⟩ := HTS.out; exact ⟨sa, sc, e⟩
        obtain ⟨ba, bc, hbk⟩ : ∃ sa sc, bk = .slice sa ls.length sc := by obtain ⟨sa, sc, _, e, _⟩ := HLS.out; exact ⟨sa, sc, e⟩
        subst hsk hbk
        simp only at x0 HTS HLS HT0
        obtain ⟨w3, hw3⟩ : ∃ v, v = wr.alloc (.cells #[.string pr, .slice sa hts.length sc, .slice ba ls.length bc] 46) := ⟨_, rfl⟩
        have hm3 : Mod (fun _ => False) wr w3 := by rw [hw3]; exact (Mod.refl _ wr).alloc _
        have HB3 : Hid (w3.heap[wr.heap.size]? = some (.cells #[.string pr, .slice sa hts.length sc, .slice ba ls.length bc] 46 (0, 0))) := Lib.hid (by rw [hw3]; exact heap_alloc_new wr _)
        have HMY := Lib.hid (MayRule_any ⟨⟨pr, hts⟩, ls⟩ _ _ w3 hok.sm (HTS.out.mod0 hm3) (HLS.out.mod0 hm3))
        have HOK := Lib.hid hok; have HCC := Lib.hid hc; have HM3 := Lib.hid hm3
        unfold rmV at HMY
        simp only at HMY
        generalize mayRm ⟨⟨pr, hts⟩, ls⟩ = my at *
        clear hok hc hm3 hC
        go_wp2_with fail
        rw [← hw3]
        clear hw3 x0 x1 x2
        refine HMY.out.mono ?_
        rintro e w4 ⟨rfl, hM4⟩
        have HM4 := Lib.hid (HM3.out.trans hM4)
        have hb4 := hM4.at HB3.out id
        have q0 := cell_at (j := 0) hb4 rfl; have q1 := cell_at (j := 1) hb4 rfl; have q2 := cell_at (j := 2) hb4 rfl
        have HB4 := Lib.hid hb4
        clear hM4 HM3 HMY hb4 HB3
        by_cases h0 : my = 0
        · subst h0
          have hcc := HCC.out
          rw [if_neg (by simp)] at hcc
          have HCC := Lib.hid hcc
          have HAR := Lib.hid (arule_any (w.heap.size + 1) L ⟨⟨pr, hts⟩, ls⟩ _ _ w4 (hA.out.mod HM4.out id) (HTS.out.mod0 HM4.out) (HLS.out.mod0 HM4.out) HOK.out.u (by omega))
          unfold rmV at HAR
          simp only at HAR
          clear hcc
          go_wp2_with fail
          refine HAR.out.mono ?_
          rintro e w5 ⟨(⟨L', hL', rfl, hA5⟩ | ⟨hn', rfl⟩), hM5⟩
          · have hM5' : Mod (fun _ => False) w w5 := (hM.out.trans HM4.out).step hM5 (fun i hi e => by have e : i = w.heap.size + 1 := e; omega)
            have hwr : w.heap.size + 1 < wr.heap.size := hA.out.lt
            have hb5 := hM5.at HB4.out (fun e => by have e : wr.heap.size = w.heap.size + 1 := e; omega)
            have HM5 := Lib.hid hM5'; have HA5 := Lib.hid hA5
            have hcc := HCC.out
            rw [hL'] at hcc
            simp only at hcc
            have hln := hA5.len 3
            have r0 := cell_at (j := 0) hb5 rfl; have r1 := cell_at (j := 1) hb5 rfl; have r2 := cell_at (j := 2) hb5 rfl
            have HSF := Lib.hid (Safe_any ⟨⟨pr, hts⟩, ls⟩ _ _ w5 (HT0.out.1.mod0 HM5.out) (HT0.out.2.mod0 HM5.out) HOK.out.h0 HOK.out.b0 HOK.out.t0)
            unfold rmV at HSF
            simp only at HSF
            have HC2 := Lib.hid hcc
            clear hM5 hM5' hb5 hcc q0 q1 q2 HAR
            by_cases h5 : 512 < L'.length
            · have hcc := HC2.out
              rw [if_pos h5] at hcc
              have HC3 := Lib.hid hcc
              have e5 : (decide ((512 : Int) < L'.length)) = true := decide_eq_true (by omega)
              clear hcc
              go_wp2_with fail
              exact bodyPost_ret (results_tmp2 rfl _ _ _) rfl ⟨by rw [HC3.out]; rfl, HM5.out⟩
            · have hcc := HC2.out
              rw [if_neg h5] at hcc
              have HC3 := Lib.hid hcc
              have e5 : (decide ((512 : Int) < L'.length)) = false := decide_eq_false (by omega)
              clear hcc HC2
              go_wp2_with fail
              refine HSF.out.mono ?_
              rintro e w6 ⟨rfl, hM6⟩
              have HM6 := Lib.hid hM6
              clear hM6 HSF r0 r1 r2 hln
              generalize safeB ⟨⟨pr, hts⟩, ls⟩ = y at *
              obtain ⟨y1, y2, y3, y4⟩ := y
              unfold okBr brV
              simp only at HC3 ⊢
              by_cases h6 : y1 = 0
              · subst h6
                have hcc := HC3.out
                rw [if_neg (by simp)] at hcc
                have HC4 := Lib.hid hcc
                clear hcc
                go_wp2_with fail
                go_roundw
                case rel => exact ⟨k + 1, L', by go_num, hlt, by omega, Lib.hid ((HA5.out.mod HM6.out id).mod ((Mod.refl (fun _ => False) w6).alloc _) id), HC4, Lib.hid ((HM5.out.trans HM6.out).alloc _)⟩
                case measure => simp [intOf]; omega
              · have hcc := HC3.out
                rw [if_pos h6] at hcc
                have HC4 := Lib.hid hcc
                have e6 : decide (y1 = 0) = false := decide_eq_false h6
                rw [e6]
                clear hcc
                go_wp2_with fail
                exact bodyPost_ret (results_tmp2 rfl _ _ _) rfl ⟨by rw [HC4.out]; rfl, (HM5.out.trans HM6.out).alloc _⟩
          · have hcc := HCC.out
            rw [hn'] at hcc
            have hM5' : Mod (fun _ => False) w w5 := (hM.out.trans HM4.out).step hM5 (fun i hi e => by have e : i = w.heap.size + 1 := e; omega)
            have HM5 := Lib.hid hM5'
            simp only at hcc
            have HC2 := Lib.hid hcc
            clear hM5 hM5' hcc
            go_wp2_with fail
            exact bodyPost_ret (results_tmp2 rfl _ _ _) rfl ⟨by rw [HC2.out]; rfl, HM5.out⟩
        · have hcc := HCC.out
          rw [if_pos h0] at hcc
          have HC2 := Lib.hid hcc
          have e0 : (my == 0) = false := by simpa using h0
          have e1 : (my != 0) = true := by simpa using h0
          clear hcc
          go_wp2_with fail
          exact bodyPost_ret (results_tmp2 rfl _ _ _) rfl ⟨by rw [HC2.out]; rfl, hM.out.trans HM4.out⟩
      · obtain rfl : k = rs.length := by omega
        have hc := hC.out
        rw [List.drop_length, checkGo] at hc
        have HC2 := Lib.hid hc
        clear hc
        go_wp2_with fail
        exact bodyPost_ret (results_tmp2 rfl _ _ _) rfl ⟨by rw [HC2.out]; rfl, hM.out⟩
end Go.Proofs.YteecbbnpgmceiaaGreatDoor
