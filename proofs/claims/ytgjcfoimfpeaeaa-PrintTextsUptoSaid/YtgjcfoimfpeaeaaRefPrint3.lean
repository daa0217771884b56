/-
  Texts: the document's answer, walked: Program, Rule, Atom.
-/
import Derived.Test.YtgjcfoimfpeaeaaRefPrint2
namespace Go.Proofs.Ytgjcfoimfpeaeaa
open Go Go.RowKit Go.Mine
set_option linter.unusedVariables false
set_option maxHeartbeats 4000000
set_option maxRecDepth 100000

theorem RefAtom_any (a : Am) (s : Value) (w : World) (hs : SmallAm a) (ht : TsAt w s a.terms) :
    Calls Try.prog 14 #[.agg #[.string a.pred, s]] w (SayP (outP (mayAm false a) (amT a)) w) := by
  have hm0 : Mod (fun _ => False) w (w.alloc (.cells #[.string a.pred, s] 35)) := (Mod.refl _ w).alloc _
  have HA := Lib.hid (RefMayAtom_any a s _ hs (ht.mod0 hm0))
  have HTX := Lib.hid (fun (h : mayAm false a = 0) (w' : World) (m : Mod (fun _ => False) w w') => refAtom_any a (okAm h) s w' (ht.mod0 m))
  have HFIT := Lib.hid (fun (h : mayAm false a = 0) (w' : World) => fit_any ⟨(amT a).toArray⟩ w' (by show (amT a).length < _; have := amT_len (okAm h); omega))
  have HM0 := Lib.hid hm0
  have hc0 : (w.alloc (.cells #[.string a.pred, s] 35)).cell? ⟨w.heap.size, 0, none⟩ = some (.string a.pred) := cell_new rfl
  have hc1 : (w.alloc (.cells #[.string a.pred, s] 35)).cell? ⟨w.heap.size, 1, none⟩ = some s := cell_new rfl
  obtain ⟨ad, c, rfl, _⟩ := ht
  clear hm0
  unfold SayP outP
  generalize mayAm false a = x at *
  by_cases hx : x = 0
  · subst hx
    rw [if_neg (by simp)]
    have HF := Lib.hid (HFIT.out rfl)
    have HT := Lib.hid (HTX.out rfl)
    clear HFIT HTX
    generalize amT a = out at *
    obtain ⟨X, hX⟩ : ∃ X : ByteArray, X = ⟨out.toArray⟩ := ⟨_, rfl⟩
    have hfx : fitT X.data.toList = fitT out := by rw [hX]
    rw [← hX] at HT HF
    rw [hfx] at HF
    clear hX hfx
    generalize fitT out = fo at *
    go_enter Try.func14, Try.ntmps14
    go_wp2_with fail
    refine HA.out.mono ?_
    rintro e w1 ⟨rfl, hM1⟩
    have x0 := hM1.cell hc0 id; have x1 := hM1.cell hc1 id
    have HM1 := Lib.hid (HM0.out.trans hM1); clear hM1
    go_wp2_with fail
    refine (HT.out _ HM1.out).mono ?_
    rintro e w2 ⟨rfl, hM2⟩
    have HM2 := Lib.hid (HM1.out.trans hM2); clear hM2
    go_wp2_with fail
    refine (HF.out _).mono ?_
    rintro e w3 ⟨rfl, rfl⟩
    go_wp2_with fail
    go_ret2
    exact ⟨rfl, HM2.out⟩
  · rw [if_pos hx]
    have hxb : (x != 0) = true := by simpa using hx
    clear hx
    go_enter Try.func14, Try.ntmps14
    go_wp2_with fail
    refine HA.out.mono ?_
    rintro e w1 ⟨rfl, hM1⟩
    have HM1 := Lib.hid hM1; clear hM1
    go_wp2_with fail
    go_ret2
    exact ⟨rfl, HM0.out.trans HM1.out⟩
theorem RefRule_any (r : Rm) (s b : Value) (w : World) (hs : SmallRm r) (ht : TsAt w s r.head.terms) (hl : LsAt w b r.body) :
    Calls Try.prog 11 #[rmV r s b] w (SayP (outP (mayRm r) (rmT r)) w) := by
  have hm0 : Mod (fun _ => False) w (w.alloc (.cells #[.string r.head.pred, s, b] 38)) := (Mod.refl _ w).alloc _
  have HA := Lib.hid (RefMayRule_any r s b _ hs (ht.mod0 hm0) (hl.mod0 hm0))
  have HTX := Lib.hid (fun (h : mayRm r = 0) (w' : World) (m : Mod (fun _ => False) w w') => refRule_any r (okRm h) s b w' (ht.mod0 m) (hl.mod0 m))
  have HFIT := Lib.hid (fun (h : mayRm r = 0) (w' : World) => fit_any ⟨(rmT r).toArray⟩ w' (by show (rmT r).length < _; have := rmT_len (okRm h); omega))
  have HM0 := Lib.hid hm0
  have hc0 : (w.alloc (.cells #[.string r.head.pred, s, b] 38)).cell? ⟨w.heap.size, 0, none⟩ = some (.string r.head.pred) := cell_new rfl
  have hc1 : (w.alloc (.cells #[.string r.head.pred, s, b] 38)).cell? ⟨w.heap.size, 1, none⟩ = some s := cell_new rfl
  have hc2 : (w.alloc (.cells #[.string r.head.pred, s, b] 38)).cell? ⟨w.heap.size, 2, none⟩ = some b := cell_new rfl
  obtain ⟨ad, c, rfl, _⟩ := ht
  obtain ⟨bd, bc, _, rfl, _⟩ := hl
  unfold rmV at *
  clear hm0
  unfold SayP outP
  generalize mayRm r = x at *
  by_cases hx : x = 0
  · subst hx
    rw [if_neg (by simp)]
    have HF := Lib.hid (HFIT.out rfl)
    have HT := Lib.hid (HTX.out rfl)
    clear HFIT HTX
    generalize rmT r = out at *
    obtain ⟨X, hX⟩ : ∃ X : ByteArray, X = ⟨out.toArray⟩ := ⟨_, rfl⟩
    have hfx : fitT X.data.toList = fitT out := by rw [hX]
    rw [← hX] at HT HF
    rw [hfx] at HF
    clear hX hfx
    generalize fitT out = fo at *
    go_enter Try.func11, Try.ntmps11
    go_wp2_with fail
    refine HA.out.mono ?_
    rintro e w1 ⟨rfl, hM1⟩
    have x0 := hM1.cell hc0 id; have x1 := hM1.cell hc1 id; have x2 := hM1.cell hc2 id
    have HM1 := Lib.hid (HM0.out.trans hM1); clear hM1
    go_wp2_with fail
    refine (HT.out _ HM1.out).mono ?_
    rintro e w2 ⟨rfl, hM2⟩
    have HM2 := Lib.hid (HM1.out.trans hM2); clear hM2
    go_wp2_with fail
    refine (HF.out _).mono ?_
    rintro e w3 ⟨rfl, rfl⟩
    go_wp2_with fail
    go_ret2
    exact ⟨rfl, HM2.out⟩
  · rw [if_pos hx]
    have hxb : (x != 0) = true := by simpa using hx
    clear hx
    go_enter Try.func11, Try.ntmps11
    go_wp2_with fail
    refine HA.out.mono ?_
    rintro e w1 ⟨rfl, hM1⟩
    have HM1 := Lib.hid hM1; clear hM1
    go_wp2_with fail
    go_ret2
    exact ⟨rfl, HM0.out.trans HM1.out⟩
theorem fitT_more {rs : List Rm} {k : Nat} (h : 65536 < (pmT (rs.take k)).length) : fitT (pmT (rs.take k)) = fitT (pmT rs) := by
  have := pmT_le rs k
  unfold fitT
  rw [if_pos h, if_pos (by omega)]
theorem RefProgram_any (rs : List Rm) (v0 : Value) (w : World) (hs : SmallPm rs) (hr : RsAt w v0 rs) :
    Calls Try.prog 6 #[.agg #[v0]] w (SayP (outP (mayPm rs) (pmT rs)) w) := by
  have hm0 : Mod (fun _ => False) w (w.alloc (.cells #[v0] 24)) := (Mod.refl _ w).alloc _
  have HA := Lib.hid (RefMay_any rs v0 _ hs (hr.mod0 hm0))
  have HM0 := Lib.hid hm0
  have hc0 : (w.alloc (.cells #[v0] 24)).cell? ⟨w.heap.size, 0, none⟩ = some v0 := cell_new rfl
  obtain ⟨ad, c, xs, rfl, hx, hrx, hxt⟩ := hr
  have HR := Lib.hid hrx; have HX := Lib.hid hx; have HXT := Lib.hid hxt
  clear hrx hx hxt hm0
  have HOK := Lib.hid (fun h => okPm (rs := rs) h)
  unfold SayP outP
  generalize mayPm rs = x at *
  by_cases hx : x = 0
  · subst hx
    rw [if_neg (by simp)]
    obtain ⟨hn, hok⟩ := HOK.out rfl
    have HOK2 := Lib.hid hok
    clear hok HOK
    obtain ⟨fo, hfo⟩ : ∃ fo, fo = fitT (pmT rs) := ⟨_, rfl⟩
    rw [← hfo]
    have HFO := Lib.hid hfo; clear hfo
    obtain ⟨w0, hw0⟩ : ∃ w0, w0 = w.alloc (.cells #[.slice ad rs.length c] 24) := ⟨_, rfl⟩
    have HC1 : Hid (w0.cell? ⟨w.heap.size, 0, none⟩ = some (.slice ad rs.length c)) := by rw [hw0]; exact hc0
    have HMZ : Hid (Mod (fun _ => False) w w0) := by rw [hw0]; exact HM0.out
    have HMW : Hid (∀ w1, Mod (fun _ => False) (w.alloc (.cells #[.slice ad rs.length c] 24)) w1 → Mod (fun _ => False) w0 w1) := by rw [hw0]; exact fun _ h => h
    clear hw0 hc0
    go_enter Try.func6, Try.ntmps6
    go_wp2_with fail
    refine HA.out.mono ?_
    rintro e w1 ⟨rfl, hM1⟩
    have HM1 := Lib.hid (HMW.out _ hM1)
    have c0 := HM1.out.cell HC1.out id
    clear hM1 HMW HA HM0
    go_wp2_with fail
    go_loopw [5, 6] (fun bv iv wr => ∃ (k n c' : Nat) (a' : Option Addr), bv = .slice a' n c' ∧ iv = .int .i64 k ∧ k ≤ rs.length ∧ Hid (n = (pmT (rs.take k)).length) ∧ n ≤ 65536 + 80000001 ∧ Hid (Mine.Own wr 5 1 a' n c' (bts (pmT (rs.take k)))) ∧ Hid (∀ b, blk a' = some b → w0.heap.size ≤ b) ∧ Hid (Mod (fun _ => False) w0 wr)) (fun _ iv _ => rs.length - (intOf iv).toNat)
    case atStart => exact ⟨0, 0, 0, none, rfl, rfl, Nat.zero_le _, Lib.hid rfl, by omega, Lib.hid (Mine.Own.nil _ _ _), Lib.hid (by intro b h; simp at h), HM1⟩
    case round =>
      obtain ⟨k, n, c', a', rfl, rfl, hk, hN, hn2, hO, hF, hM⟩ := hrel
      have c0 := hM.out.cell HC1.out id
      clear HM1
      by_cases hlt : k < rs.length
      · by_cases hb : n ≤ 65536
        · obtain ⟨sk, bk, hx, hmem⟩ := xs_get3 HX.out hlt
          obtain ⟨bb, o, rfl, x0, x1, x2⟩ := rd_cellR (HR.out.mod (HMZ.out.trans hM.out) (fun _ _ => id)) hx
          have HT := Lib.hid (refRule_any rs[k] (HOK2.out _ (List.getElem_mem hlt)) sk bk wr ((HXT.out _ hmem).1.mod0 (HMZ.out.trans hM.out)) ((HXT.out _ hmem).2.mod0 (HMZ.out.trans hM.out)))
          obtain ⟨⟨sa, sc, hsk, _⟩, ⟨ba, bc, _, hbk, _⟩⟩ := HXT.out _ hmem
          simp only at hsk hbk
          subst hsk hbk
          have hrl := rmT_len (HOK2.out _ (List.getElem_mem hlt))
          obtain ⟨X, hX⟩ : ∃ X : ByteArray, X = ⟨(rmT rs[k]).toArray⟩ := ⟨_, rfl⟩
          have hXs : X.size ≤ 80000000 := by rw [hX]; exact hrl
          have hXb : byteCells X = bts (rmT rs[k]) := by rw [bts_byteCells, hX]
          have hXl : X.size = (rmT rs[k]).length := by rw [hX]; rfl
          have hst := pmT_take rs hlt
          rw [← hX] at HT
          clear hX hx hmem hrl
          unfold rmV at HT
          generalize rmT rs[k] = rt at *
          generalize rs[k] = r at *
          obtain ⟨⟨lp, lts⟩, lb⟩ := r
          simp only at *
          have HXB := Lib.hid hXb; have HXL := Lib.hid hXl; have HST := Lib.hid hst
          clear hXb hXl hst
          go_wp2_with fail
          refine HT.out.mono ?_
          rintro e w2 ⟨rfl, hM2⟩
          have HM2 := Lib.hid (hM.out.trans hM2)
          have HO2 := Lib.hid (hO.out.mod hM2 (fun _ _ => id))
          clear hM2
          go_wp2_with (first
            | (at_builtin; refine wpL_append rfl (.tmp 26) (.tmp 32) 56 9 rfl ti24 rfl HO2.out rfl (Src.ofString _ (by kernel_rfl) X) (by omega) (by unfold maxLen; omega) ?_; intro a3 c3 w3 hO3 hG3 _; have HO3 := Lib.hid hO3; have HG3 := Lib.hid hG3; clear hO3 hG3)
            | (at_builtin; refine wpL_appendN (us := [_]) rfl (.tmp 34) (.tmp 35) 56 rfl ti24 rfl HO3.out rfl rfl rfl (by omega) (by unfold maxLen; omega) ?_; intro a4 c4 w4 hO4 hG4 _; have HO4 := Lib.hid hO4; have HG4 := Lib.hid (HG3.out.trans hG4); clear hO4 hG4))
          have hnn : n + X.size + 1 = (pmT (rs.take (k + 1))).length := by
            rw [HST.out, List.length_append, List.length_append, ← hN.out, ← HXL.out]; rfl
          have HNN := Lib.hid hnn; clear hnn
          go_roundw
          case rel =>
            refine ⟨k + 1, n + X.size + 1, c4, a4, rfl, by go_num, hlt, HNN, by omega, ?_, ?_, ?_⟩
            · unfold Hid
              rw [HST.out, bts_append, bts_append, ← HXB.out]
              exact HO4.out
            · intro b hb
              rcases HG4.out.pos with e | ⟨g, e, hg⟩
              · rw [e] at hb; exact hF.out b hb
              · rw [e] at hb; cases hb; have := HM2.out.size; omega
            · exact HM2.out.step HG4.out.mod (fun i hi hs => by have := hF.out i hs; omega)
          case measure => simp [intOf]; omega
        · have hb2 : 65536 < n := by omega
          have hcv := run_bytes_str (P := Try.prog) (w := wr) (src := 56) (dst := 9) (e := 5) (by kernel_rfl) (by kernel_rfl) (by kernel_rfl) c' hO.out.rd
          rw [← hN.out] at hcv
          have HF2 := Lib.hid (fit_any ⟨(pmT (rs.take k)).toArray⟩ wr (by show (pmT (rs.take k)).length < _; rw [← hN.out]; omega))
          simp only at HF2
          rw [show fitT (pmT (rs.take k)) = fo from (fitT_more (by rw [← hN.out]; exact hb2)).trans HFO.out.symm] at HF2
          obtain ⟨X, hX⟩ : ∃ X : ByteArray, X = ⟨(pmT (rs.take k)).toArray⟩ := ⟨_, rfl⟩
          rw [← hX] at HF2 hcv
          clear hX hb
          go_wp2_with fail
          refine HF2.out.mono ?_
          rintro e w2 ⟨rfl, rfl⟩
          go_wp2_with fail
          go_ret2
          exact ⟨rfl, HMZ.out.trans hM.out⟩
      · obtain rfl : k = rs.length := by omega
        have hcv := run_bytes_str (P := Try.prog) (w := wr) (src := 56) (dst := 9) (e := 5) (by kernel_rfl) (by kernel_rfl) (by kernel_rfl) c' hO.out.rd
        rw [← hN.out] at hcv
        have HF2 := Lib.hid (fit_any ⟨(pmT (rs.take rs.length)).toArray⟩ wr (by show (pmT (rs.take rs.length)).length < _; rw [← hN.out]; omega))
        simp only at HF2
        rw [show fitT (pmT (rs.take rs.length)) = fo by rw [List.take_length]; exact HFO.out.symm] at HF2
        obtain ⟨X, hX⟩ : ∃ X : ByteArray, X = ⟨(pmT (rs.take rs.length)).toArray⟩ := ⟨_, rfl⟩
        rw [← hX] at HF2 hcv
        clear hX
        go_wp2_with fail
        refine HF2.out.mono ?_
        rintro e w2 ⟨rfl, rfl⟩
        go_wp2_with fail
        go_ret2
        exact ⟨rfl, HMZ.out.trans hM.out⟩
  · rw [if_pos hx]
    have hxb : (x != 0) = true := by simpa using hx
    clear hx
    go_enter Try.func6, Try.ntmps6
    go_wp2_with fail
    refine HA.out.mono ?_
    rintro e w1 ⟨rfl, hM1⟩
    have HM1 := Lib.hid hM1; clear hM1
    go_wp2_with fail
    go_ret2
    exact ⟨rfl, HM0.out.trans HM1.out⟩
end Go.Proofs.Ytgjcfoimfpeaeaa
