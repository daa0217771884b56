/-
  schema.With and schema.Arities, walked.
-/
import Derived.Test.YteecbbnpgmceiaaGreatDoorSchN
import Derived.Test.YteecbbnpgmceiaaGreatDoorSch5
import Derived.Test.YteecbbnpgmceiaaGreatDoorPar1
import Derived.Test.YteecbbnpgmceiaaGreatDoorSchR3
namespace Go.Proofs.YteecbbnpgmceiaaGreatDoor
open Go Go.RowKit Go.Mine
set_option linter.unusedVariables false
set_option maxHeartbeats 4000000
set_option maxRecDepth 100000

def pzC (x : PdZ) : List Value := [.string x.1, .int .i64 x.2.1, .int .i64 x.2.2]
def pzsC (xs : List PdZ) : List Value := xs.flatMap pzC
@[simp] theorem pzC_length (x : PdZ) : (pzC x).length = 3 := rfl
@[simp] theorem pzsC_length (xs : List PdZ) : (pzsC xs).length = xs.length * 3 := flat_len pzC_length xs
theorem pzsC_append (l m : List PdZ) : pzsC (l ++ m) = pzsC l ++ pzsC m := by simp [pzsC]
theorem rd_cellZ {w : World} {a : Option Addr} {xs : List PdZ} (h : Rd w a (pzsC xs)) {i : Nat} (hi : i < xs.length) :
    ∃ b o, a = some ⟨b, o, none⟩ ∧ w.cell? ⟨b, o + i * 3, none⟩ = some (.string xs[i].1) ∧ w.cell? ⟨b, o + i * 3 + 1, none⟩ = some (.int .i64 xs[i].2.1) ∧ w.cell? ⟨b, o + i * 3 + 2, none⟩ = some (.int .i64 xs[i].2.2) := by
  have h1 := flat_get (f := pzC) (j := 0) pzC_length (List.getElem?_eq_getElem hi) (by omega)
  have h2 := flat_get (f := pzC) (j := 1) pzC_length (List.getElem?_eq_getElem hi) (by omega)
  have h3 := flat_get (f := pzC) (j := 2) pzC_length (List.getElem?_eq_getElem hi) (by omega)
  obtain ⟨b, o, e, q1⟩ := h (i * 3 + 0) _ (h1.trans rfl)
  obtain ⟨b', o', e', q2⟩ := h (i * 3 + 1) _ (h2.trans rfl)
  obtain ⟨b2, o2, e2, q3⟩ := h (i * 3 + 2) _ (h3.trans rfl)
  rw [e] at e' e2
  cases e'; cases e2
  exact ⟨b, o, e, q1, by rw [Nat.add_assoc]; exact q2, by rw [Nat.add_assoc]; exact q3⟩
theorem tiPz : TI Tryz.prog 61 69 3 32 := TI.mk' (z := .agg #[.string ByteArray.empty, .int .i64 0, .int .i64 0]) (by kernel_rfl) (by kernel_rfl) rfl (by omega)
theorem clipZ_any (a : Option Addr) (n c : Nat) (xs : List Value) (w : World) (h : Mine.Own w 69 3 a n c xs) (hn : n ≤ 2 ^ 42) :
    Calls Tryz.prog 70 #[.slice a n c] w fun e w' => e = .returned (.slice a n n) ∧ w = w' := by
  have hr := run_clip tiPz a n c (own_head h).1 (own_head h).2 w
  clear h
  go_enter Tryz.func70, Tryz.ntmps70
  go_wp2
  go_ret
  exact ⟨rfl, rfl⟩

/-- a relation as it lies: its name, its arity, its rows -/
abbrev Re := ByteArray × Int × Option Addr × Nat × Nat
def reC (x : Re) : List Value := [.string x.1, .int .i64 x.2.1, .slice x.2.2.1 x.2.2.2.1 x.2.2.2.2]
def resC (xs : List Re) : List Value := xs.flatMap reC
@[simp] theorem reC_length (x : Re) : (reC x).length = 3 := rfl
@[simp] theorem resC_length (xs : List Re) : (resC xs).length = xs.length * 3 := flat_len reC_length xs
theorem resC_append (l m : List Re) : resC (l ++ m) = resC l ++ resC m := by simp [resC]
theorem rd_cellE {w : World} {a : Option Addr} {xs : List Re} (h : Rd w a (resC xs)) {i : Nat} (hi : i < xs.length) :
    ∃ b o, a = some ⟨b, o, none⟩ ∧ w.cell? ⟨b, o + i * 3, none⟩ = some (.string xs[i].1) ∧ w.cell? ⟨b, o + i * 3 + 1, none⟩ = some (.int .i64 xs[i].2.1) ∧ w.cell? ⟨b, o + i * 3 + 2, none⟩ = some (.slice xs[i].2.2.1 xs[i].2.2.2.1 xs[i].2.2.2.2) := by
  have h1 := flat_get (f := reC) (j := 0) reC_length (List.getElem?_eq_getElem hi) (by omega)
  have h2 := flat_get (f := reC) (j := 1) reC_length (List.getElem?_eq_getElem hi) (by omega)
  have h3 := flat_get (f := reC) (j := 2) reC_length (List.getElem?_eq_getElem hi) (by omega)
  obtain ⟨b, o, e, q1⟩ := h (i * 3 + 0) _ (h1.trans rfl)
  obtain ⟨b', o', e', q2⟩ := h (i * 3 + 1) _ (h2.trans rfl)
  obtain ⟨b2, o2, e2, q3⟩ := h (i * 3 + 2) _ (h3.trans rfl)
  rw [e] at e' e2
  cases e'; cases e2
  exact ⟨b, o, e, q1, by rw [Nat.add_assoc]; exact q2, by rw [Nat.add_assoc]; exact q3⟩
def relZ (xs : List Re) : ArZ := xs.map fun x => (x.1, x.2.1)
theorem usesAll_app (l m : List Rm) : usesAll (l ++ m) = usesAll l ++ usesAll m := by unfold usesAll; rw [List.flatMap_append]
theorem usesAll_take_le (rs : List Rm) (k : Nat) : (usesAll (rs.take k)).length ≤ (usesAll rs).length := by
  have h := congrArg List.length (congrArg usesAll (List.take_append_drop k rs))
  rw [usesAll_app, List.length_append] at h
  omega
theorem notedL_le : ∀ {us L M : Ar}, notedL L us = some M → M.length ≤ L.length + us.length
  | [], L, M, h => by rw [notedL] at h; cases h; simp
  | u :: us, L, M, h => by
    rw [notedL] at h
    by_cases hf : fitsL L u = true
    · rw [if_pos hf] at h
      have := notedL_le h
      have := noteL_len L u
      rw [List.length_cons]; omega
    · rw [if_neg hf] at h; cases h
theorem noteZ_len (l : ArZ) (x : ByteArray × Int) : (noteZ l x).length ≤ l.length + 1 := by
  unfold noteZ
  split
  · omega
  · simp
theorem noted_step {rs : List Rm} {k : Nat} (hk : k < rs.length) {L : Ar} (h : notedL [] (usesAll (rs.take k)) = some L) : notedL [] (usesAll (rs.take (k + 1))) = notedL L (usesL rs[k]) := by
  rw [List.take_succ_eq_append_getElem hk, usesAll_app, notedL_app, h]
  show notedL L (usesAll [rs[k]]) = _
  rw [usesAll_cons, show usesAll [] = [] from rfl, List.append_nil]
theorem noted_clash {rs : List Rm} {k : Nat} (h : notedL [] (usesAll (rs.take k)) = none) : notedL [] (usesAll rs) = none := by
  have e : usesAll rs = usesAll (rs.take k) ++ usesAll (rs.drop k) := by rw [← usesAll_app, List.take_append_drop]
  rw [e, notedL_app, h]; rfl
theorem cntR_step {rs : List Rm} {k : Nat} (hk : k < rs.length) : (fun y => if y = rs[k].head.pred then cntR (rs.take k) rs[k].head.pred + 1 else cntR (rs.take k) y) = cntR (rs.take (k + 1)) := by
  funext y
  have e : cntR (rs.take (k + 1)) y = cntR (rs.take k) y + (if rs[k].head.pred = y then 1 else 0) := by
    rw [List.take_succ_eq_append_getElem hk]
    unfold cntR
    rw [List.filter_append, List.length_append]
    congr 1
    rw [List.filter_cons]
    by_cases h : rs[k].head.pred = y
    · rw [if_pos (by simpa using h), if_pos h]; rfl
    · rw [if_neg (by simpa using h), if_neg h]; rfl
  rw [e]
  by_cases h : y = rs[k].head.pred
  · rw [if_pos h, if_pos h.symm, h]
  · rw [if_neg h, if_neg (fun e => h e.symm), Nat.add_zero]
theorem cntR_le (rs : List Rm) (x : ByteArray) : cntR rs x ≤ rs.length := List.length_filter_le _ _
/-- what With answers -/
def WPost (w w' : World) (e : Ending) : Option (List PdZ) → Prop
  | none => e = .returned (.tuple #[.slice none 0 0, .int .i64 110])
  | some ps => ∃ a, e = .returned (.tuple #[.slice a ps.length ps.length, .int .i64 0]) ∧ Clp w' 69 3 a ps.length (pzsC ps) ∧ (∀ b, blk a = some b → w.heap.size ≤ b)
theorem WPost.no {w w' : World} {e : Ending} {R : Option (List PdZ)} (hR : R = none) (he : e = .returned (.tuple #[.slice none 0 0, .int .i64 110])) : WPost w w' e R := by subst hR; exact he
theorem WPost.yes {w w' : World} {e : Ending} {R : Option (List PdZ)} {ps : List PdZ} {a : Option Addr} (hR : R = some ps) (he : e = .returned (.tuple #[.slice a ps.length ps.length, .int .i64 0])) (hC : Clp w' 69 3 a ps.length (pzsC ps)) (hF : ∀ b, blk a = some b → w.heap.size ≤ b) : WPost w w' e R := by subst hR; exact ⟨a, he, hC, hF⟩
theorem With_any (rs : List Rm) (v0 : Value) (rels : List Re) (ra : Option Addr) (rc : Nat) (w : World) (hr : RsAt w v0 rs) (hn : rs.length ≤ 2 ^ 20) (hs : ∀ r ∈ rs, SmallU r) (hU : (usesAll rs).length ≤ 2 ^ 41)
    (hre : Rd w ra (resC rels)) (hrn : rels.length ≤ 2 ^ 40) (hrq : ∀ x ∈ rels, x.1.size ≤ maxLen ∧ In64 x.2.1) :
    Calls Tryz.prog 25 #[.agg #[v0], .slice ra rels.length rc] w fun e w' => WPost w w' e (withL rs (relZ rels)) ∧ Mod (fun _ => False) w w' := by
  obtain ⟨ad, c, xv, rfl, hx, hrx, hxt⟩ := hr
  have HX := Lib.hid hx; have HR := Lib.hid hrx; have HXT := Lib.hid hxt; have HS := Lib.hid hs; have HRE := Lib.hid hre; have HRQ := Lib.hid hrq; have HU := Lib.hid hU
  have c1 : (w.alloc (.cells #[.slice ad rs.length c] 24)).cell? ⟨w.heap.size, 0, none⟩ = some (.slice ad rs.length c) := cell_new rfl
  have hm1 : Mod (fun _ => False) w (w.alloc (.cells #[.slice ad rs.length c] 24)) := (Mod.refl _ w).alloc _
  have hmm := @run_makeMap Tryz.prog
  obtain ⟨w1, hw1⟩ : ∃ v, v = (w.alloc (.cells #[.slice ad rs.length c] 24)).alloc (.map #[] 0) := ⟨_, rfl⟩
  have hz1 : w1.heap.size = w.heap.size + 1 + 1 := by rw [hw1]; simp
  obtain ⟨w2, hw2⟩ : ∃ v, v = w1.alloc (.map #[] 0) := ⟨_, rfl⟩
  have c2 : (((w.alloc (.cells #[.slice ad rs.length c] 24)).alloc (.map #[] 0)).alloc (.map #[] 0)).cell? ⟨w.heap.size, 0, none⟩ = some (.slice ad rs.length c) := cell_old (cell_old c1)
  have hA1 : ArMap w1 (w.heap.size + 1) [] := by
    have h := ArMap.made (w.alloc (.cells #[.slice ad rs.length c] 24))
    rw [World.size_alloc] at h
    rw [hw1]; exact h
  have hA2 : ArMap w2 (w.heap.size + 1) [] := by rw [hw2]; exact hA1.mod ((Mod.refl (fun _ => False) w1).alloc _) id
  have hC2 : CMap w2 (w.heap.size + 1 + 1) 0 (cntR (rs.take 0)) := by
    have h := CMap.made w1
    rw [hz1] at h
    rw [hw2]; exact h
  have HM2 : Hid (Mod (fun _ => False) w w2) := Lib.hid (by rw [hw2, hw1]; exact (hm1.alloc _).alloc _)
  rw [hw1] at hw2
  have HA2 := Lib.hid hA2; have HC2 := Lib.hid hC2
  obtain ⟨R, hRR⟩ : ∃ R, R = withL rs (relZ rels) := ⟨_, rfl⟩
  rw [← hRR]
  have HRR := Lib.hid hRR
  clear hx hrx hxt hs hre hrq hU hm1 hA1 hA2 hC2 hz1 hw1 c1 hRR
  go_enter Tryz.func25, Tryz.ntmps25
  go_wp2_with fail
  rw [← hw2]
  clear hw2 c2 hmm
  go_loopw [20] (fun iv wr => ∃ (k : Nat) (L : Ar), iv = .int .i64 k ∧ k ≤ rs.length ∧ Hid (notedL [] (usesAll (rs.take k)) = some L) ∧ Hid (ArMap wr (w.heap.size + 1) L) ∧ Hid (CMap wr (w.heap.size + 1 + 1) k (cntR (rs.take k))) ∧ Hid (Mod (fun _ => False) w wr)) (fun iv _ => rs.length - (intOf iv).toNat)
  case atStart => exact ⟨0, [], rfl, Nat.zero_le _, rfl, HA2, HC2, HM2⟩
  case round =>
    obtain ⟨k, L, rfl, hk, hL, hA, hC, hM⟩ := hrel
    by_cases hlt : k < rs.length
    · obtain ⟨⟨sk, bk⟩, hx, hmem⟩ := xs_get HX.out hlt
      obtain ⟨bb, o, rfl, x0, x1, x2⟩ := rd_cellR (HR.out.mod hM.out (fun _ _ => id)) hx
      have hok := HS.out _ (List.getElem_mem hlt)
      have HTS := Lib.hid ((HXT.out _ hmem).1.mod0 hM.out)
      have HLS := Lib.hid ((HXT.out _ hmem).2.mod0 hM.out)
      have HST := Lib.hid (noted_step hlt hL.out)
      have HCS := Lib.hid (cntR_step hlt)
      have hLn : L.length ≤ 2 ^ 41 := by
        have h1 := notedL_le hL.out
        have h2 := usesAll_take_le rs k
        have h3 := HU.out
        simp only [List.length_nil] at h1
        omega
      have hcb : cntR (rs.take k) rs[k].head.pred ≤ k := Nat.le_trans (cntR_le _ _) (by rw [List.length_take]; omega)
      clear hx hmem
      generalize rs[k] = t at *
      obtain ⟨⟨pr, hts⟩, ls⟩ := t
      simp only at HCS hcb x0
      obtain ⟨sa, sc, hsk⟩ : ∃ sa sc, sk = .slice sa hts.length sc := by obtain ⟨sa, sc, e, _⟩ := HTS.out; exact ⟨sa, sc, e⟩
      obtain ⟨ba, bc, hbk⟩ : ∃ sa sc, bk = .slice sa ls.length sc := by obtain ⟨sa, sc, _, e, _⟩ := HLS.out; exact ⟨sa, sc, e⟩
      subst hsk hbk
      simp only at HTS HLS
      obtain ⟨w3, hw3⟩ : ∃ v, v = wr.alloc (.cells #[.string pr, .slice sa hts.length sc, .slice ba ls.length bc] 46) := ⟨_, rfl⟩
      have hm3 : Mod (fun _ => False) wr w3 := by rw [hw3]; exact (Mod.refl _ wr).alloc _
      have HB3 : Hid (w3.heap[wr.heap.size]? = some (.cells #[.string pr, .slice sa hts.length sc, .slice ba ls.length bc] 46 (0, 0))) := Lib.hid (by rw [hw3]; exact heap_alloc_new wr _)
      have HAR := Lib.hid (arule_any (w.heap.size + 1) L ⟨⟨pr, hts⟩, ls⟩ _ _ w3 (hA.out.mod hm3 id) (HTS.out.mod0 hm3) (HLS.out.mod0 hm3) hok (by omega))
      unfold rmV at HAR
      simp only at HAR
      have HM3 := Lib.hid (hM.out.trans hm3)
      have HC3 := Lib.hid (hC.out.mod hm3 id)
      have hpr := hok.1.1
      clear hok hm3 hC hM hA
      go_wp2_with fail
      rw [← hw3]
      have hwr : w.heap.size + 1 + 1 < w3.heap.size := HC3.out.lt
      have hwb : w.heap.size + 1 + 1 ≠ wr.heap.size := fun e => by
        have h1 := HC3.out
        obtain ⟨D, ⟨es, clock, hb, _⟩, _⟩ := h1
        rw [e, HB3.out] at hb; cases hb
      have HSZ := Lib.hid hwr; have HNE := Lib.hid hwb
      have HN1 : Hid (w.heap.size + 1 ≠ wr.heap.size) := Lib.hid (fun e => by
        have h1 := HC3.out.lt
        rw [hw3] at h1
        rw [World.size_alloc] at h1
        have := HNE.out; omega)
      clear hw3 x0 x1 x2 hwr hwb
      refine HAR.out.mono ?_
      rintro e w5 ⟨(⟨L', hL', rfl, hA5⟩ | ⟨hn', rfl⟩), hM5⟩
      · have hM5' : Mod (fun _ => False) w w5 := HM3.out.step hM5 (fun i hi e => by have e : i = w.heap.size + 1 := e; omega)
        have hb5 := hM5.at HB3.out (fun e => HN1.out (by have e : wr.heap.size = w.heap.size + 1 := e; omega))
        have hC5 := HC3.out.mod hM5 (fun e => by have e : w.heap.size + 1 + 1 = w.heap.size + 1 := e; omega)
        have HM5 := Lib.hid hM5'
        have hst := HST.out
        rw [hL'] at hst
        have q0 := cell_at (j := 0) hb5 rfl
        have hlk := hC5.look pr hpr
        obtain ⟨w6, hrun, hC6, hg6⟩ := hC5.put pr (cntR (rs.take k) pr + 1) hpr (by unfold maxLen; omega) (by omega)
        rw [HCS.out] at hC6
        have hg6' := grown_mod hg6
        have HA6 := Lib.hid (hA5.mod hg6' (by omega))
        have HM6 := Lib.hid (hM5'.step hg6' (fun i hi e => by have e : i = w.heap.size + 1 + 1 := e; omega))
        have HC6 := Lib.hid hC6; have HST2 := Lib.hid hst
        generalize cntR (rs.take k) pr = m at *
        have hmr : (Instr.mapUpdate 123 (.map (some (w.heap.size + 1 + 1))) (.string pr) (.int .i64 ((m : Int) + 1))).run Tryz.prog w5 = .ok () w6 := hrun
        clear hM5 hM5' hb5 hC5 hL' hA5 hrun hC6 hg6 hg6' hst HAR HST HC3
        go_wp2_with fail
        go_roundw
        case rel => exact ⟨k + 1, L', by go_num, hlt, HST2, HA6, HC6, HM6⟩
        case measure => simp [intOf]; omega
      · have hM5' : Mod (fun _ => False) w w5 := HM3.out.step hM5 (fun i hi e => by have e : i = w.heap.size + 1 := e; omega)
        have hst := HST.out
        rw [hn'] at hst
        have HST2 := Lib.hid hst; have HM5 := Lib.hid hM5'
        clear hM5 hM5' hn' hst
        go_wp2_with fail
        exact bodyPost_ret (results_tmp2 rfl _ _ _) rfl ⟨WPost.no (by rw [HRR.out]; unfold withL; rw [noted_clash HST2.out]; rfl) rfl, HM5.out⟩
    · obtain rfl : k = rs.length := by omega
      have hl := hL.out
      rw [List.take_length] at hl
      have hnd := (noted_some hl).2.1
      have HZ := Lib.hid (ZMap.of hA.out hnd)
      have hC' := hC.out
      rw [List.take_length] at hC'
      have HC := Lib.hid hC'
      have hLn : L.length ≤ 2 ^ 41 := by
        have h1 := notedL_le hl
        have h3 := HU.out
        simp only [List.length_nil] at h1
        omega
      have hwl : withL rs (relZ rels) = (notedZ (toZ L) (relZ rels)).map fun M => predsZ rs M := by unfold withL; rw [hl]; rfl
      have HWL := Lib.hid (HRR.out.trans hwl)
      have hzl : (toZ L).length ≤ 2 ^ 41 := by unfold toZ; rw [List.length_map]; exact hLn
      clear hl hL hnd hA hC hC' hwl hLn
      generalize toZ L = L0 at *
      go_wp2_with fail
      go_loopw [37] (fun iv wr => ∃ (j : Nat) (M : ArZ), iv = .int .i64 j ∧ j ≤ rels.length ∧ M.length ≤ L0.length + j ∧ Hid (ZMap wr (w.heap.size + 1) M) ∧ Hid (notedZ L0 (relZ rels) = notedZ M (relZ (rels.drop j))) ∧ Hid (CMap wr (w.heap.size + 1 + 1) rs.length (cntR rs)) ∧ Hid (Mod (fun _ => False) w wr)) (fun iv _ => rels.length - (intOf iv).toNat)
      case atStart => exact ⟨0, L0, rfl, Nat.zero_le _, Nat.le_refl _, HZ, rfl, HC, hM⟩
      case round =>
        obtain ⟨j, M, rfl, hj, hMl, hZ, hE, hCq, hMq⟩ := hrel
        clear HZ HC hM
        by_cases hjt : j < rels.length
        · obtain ⟨eb, eo, rfl, x0, x1, x2⟩ := rd_cellE (HRE.out.mod hMq.out (fun _ _ => id)) hjt
          have hq := HRQ.out _ (List.getElem_mem hjt)
          have hd : rels.drop j = rels[j] :: rels.drop (j + 1) := List.drop_eq_getElem_cons hjt
          have he := hE.out
          rw [hd] at he
          clear hd hE
          generalize rels[j] = t at *
          obtain ⟨tn, ta, v1, v2, v3⟩ := t
          simp only at x0 x1 x2 hq
          have he2 : notedZ L0 (relZ rels) = if fitsZ M (tn, ta) = true then notedZ (noteZ M (tn, ta)) (relZ (rels.drop (j + 1))) else none := he
          obtain ⟨w3, hw3⟩ : ∃ v, v = wr.alloc (.cells #[.string tn, .int .i64 ta, .slice v1 v2 v3] 60) := ⟨_, rfl⟩
          have hm3 : Mod (fun _ => False) wr w3 := by rw [hw3]; exact (Mod.refl _ wr).alloc _
          have HF := Lib.hid (fitsZ_any (w.heap.size + 1) tn ta M w3 (hZ.out.mod hm3 id) hq.1 (by unfold maxLen; omega) hq.2)
          have HNL := Lib.hid (noteZ_len M (tn, ta))
          have HE2 := Lib.hid he2; have HM3 := Lib.hid (hMq.out.trans hm3); have HC3 := Lib.hid (hCq.out.mod hm3 id)
          generalize fitsZ M (tn, ta) = fb at *
          generalize noteZ M (tn, ta) = M2 at *
          clear he he2 hm3 hMq hCq hZ hq
          go_wp2_with fail
          rw [← hw3]
          clear hw3 x0 x1 x2
          refine HF.out.mono ?_
          rintro e w5 ⟨rfl, hZ5, hg5⟩
          have hm5 := grown_mod hg5
          have HZ5 := Lib.hid hZ5
          have HC5 := Lib.hid (HC3.out.mod hm5 (by omega))
          have HM5 := Lib.hid (HM3.out.step hm5 (fun i hi e => by have e : i = w.heap.size + 1 := e; omega))
          clear hZ5 hg5 hm5 HF
          cases fb
          · have he := HE2.out
            rw [if_neg (by simp)] at he
            have HE3 := Lib.hid he
            clear HE2 he
            go_wp2_with fail
            exact bodyPost_ret (results_tmp2 rfl _ _ _) rfl ⟨WPost.no (by rw [HWL.out, HE3.out]; rfl) rfl, HM5.out⟩
          · have he := HE2.out
            rw [if_pos rfl] at he
            have HE3 := Lib.hid he
            clear HE2 he
            go_wp2_with fail
            go_roundw
            case rel => exact ⟨j + 1, M2, by go_num, hjt, by have := HNL.out; omega, HZ5, HE3, HC5, HM5⟩
            case measure => simp [intOf]; omega
        · obtain rfl : j = rels.length := by omega
          have he := hE.out
          rw [List.drop_length] at he
          have he2 : notedZ L0 (relZ rels) = some M := he
          have hML : M.length ≤ 2 ^ 41 + 2 ^ 40 := by omega
          have HSO := Lib.hid (sorted_any (w.heap.size + 1) M wr hZ.out (by omega))
          have HKY := Lib.hid (fun W => keys_any (some (w.heap.size + 1)) W)
          have HML := Lib.hid hML
          have HWM := Lib.hid (HWL.out.trans (by rw [he2]))
          clear he he2 hE hML HWL hMl
          go_wp2_with (first
            | (go_at_call 69; refine (HKY.out _).mono ?_; rintro e w' ⟨rfl, rfl⟩))
          refine HSO.out.mono ?_
          rintro e w4 ⟨sa, sc, rfl, hRs, hsm, hM4⟩
          have hnl : (sortN (M.map (·.1))).length = M.length := by rw [(sortN_perm _).length_eq, List.length_map]
          have hsn : ∀ x ∈ sortN (M.map (·.1)), x.size ≤ maxLen := fun x hx => by
            obtain ⟨p, hp, rfl⟩ := List.mem_map.1 ((sortN_perm _).mem_iff.1 hx)
            exact hsm p hp
          have hm4 : Mod (fun _ => False) wr w4 := ((Mod.refl _ wr).alloc _).trans hM4
          have HZ4 := Lib.hid (hZ.out.mod hm4 id); have HC4 := Lib.hid (hCq.out.mod hm4 id); have HM4 := Lib.hid (hMq.out.trans hm4)
          have HRS := Lib.hid hRs; have HSN := Lib.hid hsn
          have hps : R = some ((sortN (M.map (·.1))).map fun x => (x, (arZ M x).getD 0, cntR rs x)) := HWM.out
          have HPS := Lib.hid hps
          clear hRs hsn hm4 hM4 hsm hZ hCq hMq HSO hps HWM
          generalize sortN (M.map (·.1)) = N at *
          rw [← hnl]
          have HNL := Lib.hid hnl
          clear hnl
          go_wp2_with fail
          go_loopw [12, 53] (fun ov iv wr => ∃ (j : Nat) (a : Option Addr) (c : Nat), ov = .slice a j c ∧ iv = .int .i64 j ∧ j ≤ N.length ∧ Hid (Mine.Own wr 69 3 a j c (pzsC ((N.take j).map fun x => (x, (arZ M x).getD 0, cntR rs x)))) ∧ Hid (Grow w4 none wr a)) (fun _ iv _ => N.length - (intOf iv).toNat)
          case atStart => exact ⟨0, none, 0, rfl, rfl, Nat.zero_le _, Lib.hid (Own.nil w4 _ _), Lib.hid (Grow.refl _ _)⟩
          case round =>
            obtain ⟨j, a, c3, rfl, rfl, hj, hO, hG⟩ := hrel
            by_cases hjt : j < N.length
            · have hrd := HRS.out.mod hG.out.mod0 (fun _ _ => id)
              obtain ⟨nb, no, rfl, x0⟩ : ∃ b o, sa = some ⟨b, o, none⟩ ∧ wr.cell? ⟨b, o + j, none⟩ = some (.string N[j]) := hrd j _ (by unfold sts; rw [List.getElem?_map, List.getElem?_eq_getElem hjt]; rfl)
              have hxs := HSN.out _ (List.getElem_mem hjt)
              have l1 := (HZ4.out.mod hG.out.mod0 id).look1 N[j] hxs
              have l2 := (HC4.out.mod hG.out.mod0 id).look N[j] hxs
              have HTK := Lib.hid (List.take_succ_eq_append_getElem hjt)
              have hNl := HNL.out; have hMl := HML.out
              have hj2 : j + 1 ≤ 2 ^ 41 + 2 ^ 40 := by omega
              clear hrd hxs hNl hMl
              generalize N[j] = x at *
              generalize hz1 : (arZ M x).getD 0 = z1 at *
              generalize hz2 : cntR rs x = z2 at *
              have HZ1 := Lib.hid hz1; have HZ2 := Lib.hid hz2
              clear hz1 hz2
              go_wp2_with (at_builtin; refine wpL_appendN (us := [.string x, .int .i64 z1, .int .i64 z2]) rfl (.tmp 57) (.tmp 66) 61 rfl tiPz rfl hO.out rfl rfl rfl (by omega) (by unfold maxLen; omega) ?_; intro a3 c4 w5 hO3 hG3 _; have HO3 := Lib.hid hO3; have HG3 := Lib.hid hG3; clear hO3 hG3)
              go_roundw
              case rel => exact ⟨j + 1, a3, c4, rfl, by go_num, hjt, Lib.hid (by rw [HTK.out, List.map_append, pzsC_append]; show Mine.Own _ _ _ _ _ _ (_ ++ pzsC [(x, (arZ M x).getD 0, cntR rs x)]); rw [HZ1.out, HZ2.out]; exact HO3.out), Lib.hid (hG.out.trans HG3.out)⟩
              case measure => simp [intOf]; omega
            · obtain rfl : j = N.length := by omega
              have hNl := HNL.out; have hMl := HML.out
              have hO' := hO.out
              rw [List.take_length] at hO'
              have HCL := Lib.hid (clipZ_any a N.length c3 _ wr hO' (by omega))
              have HO2 := Lib.hid hO'
              clear hNl hMl hO'
              go_wp2_with fail
              refine HCL.out.mono ?_
              rintro e w6 ⟨rfl, rfl⟩
              go_wp2_with fail
              refine bodyPost_ret (results_tmp2 rfl _ _ _) rfl ⟨WPost.yes (a := a) HPS.out ?_ ?_ (fun b hb => ?_), HM4.out.trans hG.out.mod0⟩
              · rw [List.length_map]; rfl
              · rw [List.length_map]; exact Clp.of HO2.out
              · have h1 := hG.out.fresh b hb
                have h2 := HM4.out.size
                omega
theorem Arities_any (rs : List Rm) (v0 : Value) (w : World) (hr : RsAt w v0 rs) (hn : rs.length ≤ 2 ^ 20) (hs : ∀ r ∈ rs, SmallU r) (hU : (usesAll rs).length ≤ 2 ^ 41) :
    Calls Tryz.prog 30 #[.agg #[v0]] w fun e w' => WPost w w' e (withL rs []) ∧ Mod (fun _ => False) w w' := by
  have hm1 : Mod (fun _ => False) w (w.alloc (.cells #[v0] 24)) := (Mod.refl _ w).alloc _
  have HM1 := Lib.hid hm1
  have HW := Lib.hid (With_any rs v0 [] none 0 _ (hr.mod0 hm1) hn hs hU (Rd.nil _ _) (by simp) (fun x hx => by cases hx))
  have hrz : relZ [] = [] := rfl
  rw [hrz] at HW
  obtain ⟨ad, c, xv, rfl, _⟩ := hr
  have c1 : (w.alloc (.cells #[.slice ad rs.length c] 24)).cell? ⟨w.heap.size, 0, none⟩ = some (.slice ad rs.length c) := cell_new rfl
  generalize withL rs [] = R at *
  clear hs hU hm1 hrz
  go_enter Tryz.func30, Tryz.ntmps30
  go_wp2_with fail
  refine HW.out.mono ?_
  rintro e w2 ⟨hP, hM2⟩
  have HM2 := Lib.hid (HM1.out.trans hM2)
  have hz : w.heap.size ≤ (w.alloc (.cells #[.slice ad rs.length c] 24)).heap.size := by rw [World.size_alloc]; omega
  have HSZ := Lib.hid hz
  clear hM2 HW c1 hz
  cases R with
  | none =>
    obtain rfl : e = _ := hP
    go_wp2_with fail
    exact bodyPost_ret (results_tmp2 rfl _ _ _) rfl ⟨WPost.no rfl rfl, HM2.out⟩
  | some ps =>
    obtain ⟨a, rfl, hC, hF⟩ := hP
    have HC := Lib.hid hC; have HF := Lib.hid hF
    clear hC hF
    go_wp2_with fail
    exact bodyPost_ret (results_tmp2 rfl _ _ _) rfl ⟨WPost.yes (a := a) rfl rfl HC.out (fun b hb => by have h1 := HF.out b hb; have h2 := HSZ.out; omega), HM2.out⟩
end Go.Proofs.YteecbbnpgmceiaaGreatDoor
