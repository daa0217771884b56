/-
  PrintBack, walked: true for every program and every bytes.
-/
import Derived.Test.YteecbbnpgmceiaaGreatDoorSame9
import Derived.Test.YteecbbnpgmceiaaGreatDoorKnow9
import Derived.Test.YteecbbnpgmceiaaGreatDoorKpG
import Derived.Test.YteecbbnpgmceiaaGreatDoorTxG
import Derived.Test.YteecbbnpgmceiaaGreatDoorLawP
import Derived.Test.YteecbbnpgmceiaaGreatDoorMayP
import Derived.Test.YteecbbnpgmceiaaGreatDoorBkG
import Derived.Lib.ConvBytes
import Derived.Deep.DeepCutAuto
namespace Go.Proofs.YteecbbnpgmceiaaGreatDoor
open Go Go.RowKit Go.Mine
set_option linter.unusedVariables false
set_option maxHeartbeats 16000000
set_option maxRecDepth 100000

theorem bytes_mod (w : World) (e : TypeId) (s : ByteArray) : Mod (fun _ => False) w (Lib.bytesWorld w e s) :=
  ⟨rfl, rfl, rfl, by rw [Lib.bytesWorld_size]; omega, fun k hk _ => Lib.bytesWorld_at_old w e s k hk⟩
theorem bytes_rd (w : World) (e : TypeId) (s : ByteArray) : Rd (Lib.bytesWorld w e s) (some ⟨w.heap.size, 0, none⟩) (bts s.data.toList) := by
  intro i u hi
  refine ⟨_, _, rfl, ?_⟩
  have hlt : i < s.size := by
    have := (List.getElem?_eq_some_iff.1 hi).1
    rw [bts_length, ← Lib.size_eq] at this
    exact this
  rw [Nat.zero_add, Lib.bytesWorld_cell w e _ i hlt]
  simp only [bts, List.getElem?_map] at hi
  rw [← hi]
  rw [Lib.size_eq] at hlt
  rw [List.getD_eq_getElem?_getD, List.getElem?_eq_getElem hlt]
  rfl
theorem conv_sb (w : World) (s : ByteArray) : (convert 9 34 (.string s)).run Tryz.prog w = .ok (.slice (some ⟨w.heap.size, 0, none⟩) s.size (grownCap w s.size 0 5)) (Lib.bytesWorld w 5 s) :=
  Lib.run_convert_string_bytes (P := Tryz.prog) w 9 34 5 s (u := .string) (by kernel_rfl) (by kernel_rfl) (by kernel_rfl)
theorem OwnP.rsAt {w : World} {lo : Nat} {rs : List Rm} {gp cp : Nat} {ys : List Yr} (h : OwnP w lo rs gp cp ys) : RsAt w (.slice (some ⟨gp, 0, none⟩) rs.length cp) rs := by
  refine ⟨_, _, ys.map yV, rfl, ?_, h.at, ?_⟩
  · rw [← h.hy, List.map_map]; rfl
  · intro x hx
    obtain ⟨y, hy, rfl⟩ := List.mem_map.1 hx
    exact ⟨(h.each y hy).head.at, (h.each y hy).lsAt⟩
/-- a text that may be too long: what its error says of it -/
theorem outP_ok {e : Int} {l : List UInt8} (h : (outP e l).2 = 0) : e = 0 ∧ l.length ≤ 65536 ∧ (outP e l).1 = l := by
  unfold outP at *
  by_cases he : e ≠ 0
  · rw [if_pos he] at h; exact absurd h he
  · rw [if_neg he] at *
    unfold fitT at *
    by_cases hl : 65536 < l.length
    · rw [if_pos hl] at h; exact absurd h (by decide)
    · rw [if_neg hl]; exact ⟨by simpa using he, by omega, rfl⟩
theorem outP_no {e : Int} {l : List UInt8} (h : (outP e l).2 ≠ 0) : (outP e l).1 = [] := by
  unfold outP at *
  by_cases he : e ≠ 0
  · rw [if_pos he]
  · rw [if_neg he] at *
    unfold fitT at *
    by_cases hl : 65536 < l.length
    · rw [if_pos hl]
    · rw [if_neg hl] at h; exact absurd rfl h
theorem outP_three {l : List UInt8} (h : (outP 0 l).2 ≠ 0) : (outP 0 l).2 = 3 := by
  unfold outP at *
  rw [if_neg (by simp)] at *
  unfold fitT at *
  by_cases hl : 65536 < l.length
  · rw [if_pos hl]
  · rw [if_neg hl] at h; exact absurd rfl h
theorem ba_size (l : List UInt8) : (⟨l.toArray⟩ : ByteArray).size = l.length := rfl
theorem parse_of {rs : List Rm} {Q : ByteArray} (h : progS Q = .ok rs) (hs : Q.size < 2 ^ 30) (c : Nat) (w : World) (hT : Lib.Utf8Tabs 1 2 w) :
    Calls Tryz.prog 15 #[.slice (some ⟨w.heap.size, 0, none⟩) Q.size c] (Lib.bytesWorld w 5 Q) fun e w' => ∃ s, e = .returned (.tuple #[.agg #[s], .int .i64 0, .int .i64 0]) ∧ RsAt w' s rs ∧ Mod (fun _ => False) w w' := by
  refine (parse_says Q.data.toList Q.size (Lib.size_eq Q).symm hs _ c _ (bytes_rd w _ Q) (tabs_mod hT (bytes_mod _ _ _))).mono ?_
  rw [ba_mk, h]
  rintro e w' ⟨s, rfl, hr, hM⟩
  exact ⟨s, rfl, hr, (bytes_mod _ _ _).trans hM⟩
theorem parseRule_of {r : Rm} {Q : ByteArray} (h : ruleS Q = .ok r) (hs : Q.size < 2 ^ 30) (c : Nat) (w : World) (hT : Lib.Utf8Tabs 1 2 w) :
    Calls Tryz.prog 18 #[.slice (some ⟨w.heap.size, 0, none⟩) Q.size c] (Lib.bytesWorld w 5 Q) fun e w' => ∃ s b, e = .returned (.tuple #[rmV r s b, .int .i64 0, .int .i64 0]) ∧ TsAt w' s r.head.terms ∧ LsAt w' b r.body ∧ Mod (fun _ => False) w w' := by
  refine (parseRule_says Q.data.toList Q.size (Lib.size_eq Q).symm hs _ c _ (bytes_rd w _ Q) (tabs_mod hT (bytes_mod _ _ _))).mono ?_
  rw [ba_mk, h]
  rintro e w' ⟨s, b, rfl, h1, h2, hM⟩
  exact ⟨s, b, rfl, h1, h2, (bytes_mod _ _ _).trans hM⟩
theorem parseAtom_of {r : Am} {Q : ByteArray} (h : atomS Q = .ok r) (hs : Q.size < 2 ^ 30) (c : Nat) (w : World) (hT : Lib.Utf8Tabs 1 2 w) :
    Calls Tryz.prog 22 #[.slice (some ⟨w.heap.size, 0, none⟩) Q.size c] (Lib.bytesWorld w 5 Q) fun e w' => ∃ s, e = .returned (.tuple #[.agg #[.string r.pred, s], .int .i64 0, .int .i64 0]) ∧ TsAt w' s r.terms ∧ Mod (fun _ => False) w w' := by
  refine (parseAtom_says Q.data.toList Q.size (Lib.size_eq Q).symm hs _ c _ (bytes_rd w _ Q) (tabs_mod hT (bytes_mod _ _ _))).mono ?_
  rw [ba_mk, h]
  rintro e w' ⟨s, rfl, h1, hM⟩
  exact ⟨s, rfl, h1, (bytes_mod _ _ _).trans hM⟩
theorem RmS.smallR {r : Rm} (h2 : RmS r) : SmallRm r :=
  ⟨⟨by have := h2.1.1; omega, by have := h2.1.2.1; omega, fun t ht => by have := h2.1.2.2 t ht; unfold TmS at this; omega⟩, by have := h2.2.1; omega, fun l hl => by
    have h3 := h2.2.2 l hl
    exact ⟨⟨by have := h3.1.1; omega, by have := h3.1.2.1; omega, fun t ht => by have := h3.1.2.2 t ht; unfold TmS at this; omega⟩, by have := h3.2.1; unfold TmS at this; omega, by have := h3.2.2; unfold TmS at this; omega⟩⟩
theorem PrintBack_true (rs : List Rm) (v0 : Value) (a : Option Addr) (c : Nat) (l : List UInt8) (w : World) (hr : RsAt w v0 rs) (hs : SmallPm rs) (hl : Rd w a (bts l)) (hn : l.length ≤ 1048576) (hT : Lib.Utf8Tabs 1 2 w) (hp : Pow w) :
    Calls Tryz.prog 4 #[.agg #[v0], .slice a l.length c] w fun e w' => e = .returned (.bool true) ∧ Mod (fun _ => False) w w' := by
  obtain ⟨ad, c0, xv, rfl, hx, hrx, hxt⟩ := id hr
  have hmA : Mod (fun _ => False) w (w.alloc (.cells #[.slice ad rs.length c0] 24)) := (Mod.refl _ w).alloc _
  have p0 : (w.alloc (.cells #[.slice ad rs.length c0] 24)).cell? ⟨w.heap.size, 0, none⟩ = some (.slice ad rs.length c0) := cell_new rfl
  have kc := conv_sb
  have HK := Lib.hid (know9_any _ (hp.mod0 hmA))
  have HR0 := Lib.hid hr; have HSM := Lib.hid hs
  have HX := Lib.hid hx; have HR := Lib.hid hrx; have HXT := Lib.hid hxt
  have HL := Lib.hid hl; have HT := Lib.hid hT
  have HN := Lib.hid num9_any
  clear hr hs hx hrx hxt hl hT hp
  go_enter Tryz.func4, Tryz.ntmps4
  go_wp2_with fail
  generalize (w.alloc (.cells #[.slice ad rs.length c0] 24)) = wA at *
  have HMA := Lib.hid hmA; have HP0 := Lib.hid p0
  clear hmA p0
  refine HK.out.mono ?_
  rintro e w1 ⟨rfl, hM1⟩
  have HM1 := Lib.hid hM1
  clear hM1 HK
  have t0 := HM1.out.cell HP0.out id
  have HOW := Lib.hid (ownProgram_any rs _ w1 (HR0.out.mod0 (HMA.out.trans HM1.out)) HSM.out)
  go_wp2_with fail
  refine HOW.out.mono ?_
  rintro e w2 ⟨gp, cp, ys, rfl, hO, hM2⟩
  have HM2 := Lib.hid (HM1.out.trans hM2)
  have HPR := Lib.hid (Program_any rs _ w2 HSM.out hO.rsAt)
  have HOK := Lib.hid (outP_ok (e := mayPm rs) (l := pmT rs)); have HNO := Lib.hid (outP_no (e := mayPm rs) (l := pmT rs))
  clear hO hM2 HOW HM1 t0
  generalize outP (mayPm rs) (pmT rs) = X at *
  obtain ⟨X1, X2⟩ := X
  unfold SayP at HPR
  simp only at HPR HOK HNO
  go_wp2_with fail
  refine HPR.out.mono ?_
  rintro e w3 ⟨rfl, hM3⟩
  have HM3 := Lib.hid (HM2.out.trans hM3)
  clear hM3 HPR HM2
  go_upto_if 41 with (first
    | (go_at_call 10; refine (HN.out _ _).mono ?_; rintro e w' ⟨rfl, rfl⟩))
  go_cut [5] (fun _ wx => Hid (Mod (fun _ => False) wA wx))
  case first =>
    by_cases h0 : X2 = 0
    · subst h0
      obtain ⟨hm0, hl0, rfl⟩ := HOK.out rfl
      have HPB := Lib.hid (fun c w hT => parse_of (prog_back hm0 hl0) (by rw [ba_size]; omega) c w hT)
      obtain ⟨Q, hQ⟩ : ∃ Q : ByteArray, Q = ⟨(pmT rs).toArray⟩ := ⟨_, rfl⟩
      rw [← hQ] at HPB ⊢
      clear hQ hm0 hl0 HOK HNO
      go_wp2_with fail
      refine (HPB.out _ _ (tabs_mod HT.out (HMA.out.trans HM3.out))).mono ?_
      rintro e w4 ⟨s, rfl, hrs, hM4⟩
      have hM4' := HM3.out.trans hM4
      have HA4 : Hid (Mod (fun _ => False) wA (w4.alloc (.cells #[s] 24))) := Lib.hid (hM4'.alloc _)
      have HS4 := Lib.hid (same9_true rs s (.slice ad rs.length c0) (w4.alloc (.cells #[s] 24)) (hrs.mod0 ((Mod.refl _ w4).alloc _)) (HR0.out.mod0 (HMA.out.trans HA4.out)) HSM.out)
      have HC4 := Lib.hid (heap_alloc_new w4 (.cells #[s] 24))
      obtain ⟨sa, sc, sx, rfl, _⟩ := hrs
      clear hM4 hM4' HPB HM3
      have t0 := HA4.out.cell HP0.out id
      have t1 := cell_at (j := 0) HC4.out rfl
      go_wp2_with (first
        | (go_at_call 10; refine (HN.out _ _).mono ?_; rintro e w' ⟨rfl, rfl⟩)
        | (go_at_call 11; refine HS4.out.mono ?_; rintro e w5 ⟨rfl, hM5⟩; have HM5 := Lib.hid (HA4.out.trans hM5); clear hM5))
      go_meet
      case rel => exact HM5
    · have hx := HNO.out h0
      subst hx
      clear HOK HNO
      have e0 : (X2 == 0) = false := by simpa using h0
      go_wp2_with fail
      go_meet
      case rel => exact HM3
  case rest =>
  have HMC : Hid (Mod (fun _ => False) wA wc) := hcut
  clear hcut HM3 HOK HNO
  go_wp2_with fail
  go_loopw [10] (fun iv wr => ∃ k : Nat, iv = .int .i64 k ∧ k ≤ rs.length ∧ Hid (Mod (fun _ => False) wA wr)) (fun iv _ => rs.length - (intOf iv).toNat)
  case atStart => exact ⟨0, rfl, Nat.zero_le _, HMC⟩
  case round =>
    obtain ⟨k, rfl, hk, hM⟩ := hrel
    have t0 := hM.out.cell HP0.out id
    have hsl := HSM.out.1
    by_cases hlt : k < rs.length
    · have HMW : Hid (Mod (fun _ => False) w wr) := Lib.hid (HMA.out.trans hM.out)
      obtain ⟨⟨sk, bk⟩, hx, hmem⟩ := xs_get HX.out hlt
      obtain ⟨bb, o, rfl, x0, x1, x2⟩ := rd_cellR (HR.out.mod HMW.out (fun _ _ => id)) hx
      have hsm := HSM.out.2 _ (List.getElem_mem hlt)
      have HTS := Lib.hid ((HXT.out _ hmem).1.mod0 HMW.out)
      have HLS := Lib.hid ((HXT.out _ hmem).2.mod0 HMW.out)
      clear hx hmem
      generalize rs[k] = t at *
      obtain ⟨⟨pr, hts⟩, ls⟩ := t
      simp only at x0 HTS HLS
      have HX0 := Lib.hid x0; have HX1 := Lib.hid x1; have HX2 := Lib.hid x2; have HT0 := Lib.hid t0
      have HSR := Lib.hid hsm
      have HOWN := Lib.hid (own_any ⟨⟨pr, hts⟩, ls⟩ _ _ wr HTS.out HLS.out hsm.1.2.1 hsm.2.1 (fun l hl => (hsm.2.2 l hl).1.2.1))
      unfold rmV at HOWN
      simp only at HOWN
      clear hsm
      go_wp2_with fail
      refine HOWN.out.mono ?_
      rintro e w1 ⟨gh, ch, gb, cb, xs, rfl, hY, hM1⟩
      simp only at hY ⊢
      have HPR := Lib.hid (Rule_any ⟨⟨pr, hts⟩, ls⟩ _ _ w1 HSR.out hY.head.at hY.lsAt)
      have HM1 := Lib.hid hM1
      have HOK := Lib.hid (outP_ok (e := mayRm ⟨⟨pr, hts⟩, ls⟩) (l := rmT ⟨⟨pr, hts⟩, ls⟩))
      clear HOWN t0 x0 x1 x2 hY hM1
      unfold rmV at HPR
      unfold SayP at HPR
      generalize outP (mayRm ⟨⟨pr, hts⟩, ls⟩) (rmT ⟨⟨pr, hts⟩, ls⟩) = X at *
      obtain ⟨R1, R2⟩ := X
      simp only at HPR HOK
      go_wp2_with fail
      refine HPR.out.mono ?_
      rintro e w3 ⟨rfl, hM3⟩
      have HM3 := Lib.hid (HM1.out.trans hM3)
      clear hM3 HPR HM1
      go_upto_if 83 with (first
        | (go_at_call 10; refine (HN.out _ _).mono ?_; rintro e w' ⟨rfl, rfl⟩))
      go_cut [11, 12] (fun _ _ wx => Hid (Mod (fun _ => False) wr wx))
      case first =>
        by_cases h0 : R2 = 0
        · subst h0
          obtain ⟨hm0, hl0, rfl⟩ := HOK.out rfl
          have HPB := Lib.hid (fun c w hT => parseRule_of (rm_back hm0 hl0) (by rw [ba_size]; omega) c w hT)
          unfold rmV at HPB
          simp only at HPB
          obtain ⟨Q, hQ⟩ : ∃ Q : ByteArray, Q = ⟨(rmT ⟨⟨pr, hts⟩, ls⟩).toArray⟩ := ⟨_, rfl⟩
          rw [← hQ] at HPB ⊢
          clear hQ hm0 hl0 HOK
          go_wp2_with fail
          refine (HPB.out _ _ (tabs_mod HT.out (HMW.out.trans HM3.out))).mono ?_
          rintro e w4 ⟨s, b, rfl, hts4, hls4, hM4⟩
          have HA4 : Hid (Mod (fun _ => False) wr (w4.alloc (.cells #[.string pr, s, b] 46))) := Lib.hid ((HM3.out.trans hM4).alloc _)
          have HC4 := Lib.hid (heap_alloc_new w4 (.cells #[.string pr, s, b] 46))
          have hm44 : Mod (fun _ => False) w4 (w4.alloc (.cells #[.string pr, s, b] 46)) := (Mod.refl _ w4).alloc _
          have HS4 := Lib.hid (fun v (m : Mod (fun _ => False) (w4.alloc (.cells #[.string pr, s, b] 46)) v) => Same_true ⟨⟨pr, hts⟩, ls⟩ s sk b bk v (hts4.mod0 (hm44.trans m)) (HTS.out.mod0 (HA4.out.trans m)) (hls4.mod0 (hm44.trans m)) (HLS.out.mod0 (HA4.out.trans m)) HSR.out.1.2.1 HSR.out.2.1 (fun l hl => (HSR.out.2.2 l hl).1.2.1))
          unfold rmV at HS4
          simp only at HS4
          obtain ⟨sa4, sc4, rfl, _⟩ := hts4
          obtain ⟨ba4, bc4, _, rfl, _⟩ := hls4
          simp only at *
          clear hM4 HPB hm44
          have t0 := (hM.out.trans HA4.out).cell HP0.out id
          have x0 := HA4.out.cell HX0.out id; have x1 := HA4.out.cell HX1.out id; have x2 := HA4.out.cell HX2.out id
          have y0 := cell_at (j := 0) HC4.out rfl; have y1 := cell_at (j := 1) HC4.out rfl; have y2 := cell_at (j := 2) HC4.out rfl
          have HNR := Lib.hid (num9_any 0)
          go_wp2_with fail
          refine wp_region_ord (fun w' => (w'.cell? ⟨w.heap.size, 0, none⟩ = some (.slice (some ⟨bb, o, none⟩) rs.length c0)) ∧ (w'.cell? ⟨bb, o + k * 3, none⟩ = some (.string pr) ∧ w'.cell? ⟨bb, o + k * 3 + 1, none⟩ = some sk ∧ w'.cell? ⟨bb, o + k * 3 + 2, none⟩ = some bk) ∧ (w'.cell? ⟨w4.heap.size, 0, none⟩ = some (.string pr) ∧ w'.cell? ⟨w4.heap.size, 1, none⟩ = some (.slice sa4 hts.length sc4) ∧ w'.cell? ⟨w4.heap.size, 2, none⟩ = some (.slice ba4 ls.length bc4))) [(0, 0), (3, 1), (0, 2), (0, 3), (1, 4), (0, 5), (1, 6), (0, 7), (0, 8), (1, 9), (3, 10), (0, 11), (0, 12)] (by kernel_rfl) (by kernel_rfl) ?_
          go_wp2_with (first
            | (refine ord_pure rfl rfl rfl (fun K hK => ?_); go_big_quiet_op; refine hK _ ?_; clear hK K)
                        | (refine ord_skip rfl rfl ?_; simp only [Act.put, List.setIfInBounds_toArray, List.set_cons_zero, List.set_cons_succ])
                        | (refine ord_held rfl rfl rfl (⟨by first | exact t0 | simpa using t0, ⟨by first | exact x0 | simpa using x0, by first | exact x1 | simpa using x1, by first | exact x2 | simpa using x2⟩, ⟨by first | exact y0 | simpa using y0, by first | exact y1 | simpa using y1, by first | exact y2 | simpa using y2⟩⟩) (fun K hK => ?_); apply Exists.intro; refine ⟨fun w' hs => ?_, hK _ ?_⟩; (revert hs; dsimp only; (try simp only [and_imp]); intros; go_simp; rfl); clear hK K)
                        | (refine ord_keep rfl rfl (⟨by first | exact t0 | simpa using t0, ⟨by first | exact x0 | simpa using x0, by first | exact x1 | simpa using x1, by first | exact x2 | simpa using x2⟩, ⟨by first | exact y0 | simpa using y0, by first | exact y1 | simpa using y1, by first | exact y2 | simpa using y2⟩⟩) (fun K hK => ?_))
                        | (refine ord_drop rfl rfl (fun K hK => ?_))
                        | (refine ord_nil ?_))
          refine (HNR.out _).mono ?_
          rintro e w5 ⟨rfl, rfl⟩
          go_wp2_with (first
            | (refine ord_pure rfl rfl rfl (fun K hK => ?_); go_big_quiet_op; refine hK _ ?_; clear hK K)
                        | (refine ord_skip rfl rfl ?_; simp only [Act.put, List.setIfInBounds_toArray, List.set_cons_zero, List.set_cons_succ])
                        | (refine ord_held rfl rfl rfl (⟨by first | exact t0 | simpa using t0, ⟨by first | exact x0 | simpa using x0, by first | exact x1 | simpa using x1, by first | exact x2 | simpa using x2⟩, ⟨by first | exact y0 | simpa using y0, by first | exact y1 | simpa using y1, by first | exact y2 | simpa using y2⟩⟩) (fun K hK => ?_); apply Exists.intro; refine ⟨fun w' hs => ?_, hK _ ?_⟩; (revert hs; dsimp only; (try simp only [and_imp]); intros; go_simp; rfl); clear hK K)
                        | (refine ord_keep rfl rfl (⟨by first | exact t0 | simpa using t0, ⟨by first | exact x0 | simpa using x0, by first | exact x1 | simpa using x1, by first | exact x2 | simpa using x2⟩, ⟨by first | exact y0 | simpa using y0, by first | exact y1 | simpa using y1, by first | exact y2 | simpa using y2⟩⟩) (fun K hK => ?_))
                        | (refine ord_drop rfl rfl (fun K hK => ?_))
                        | (refine ord_nil ?_))
          refine (HS4.out _ ((Mod.refl _ _).drew)).mono ?_
          rintro e w6 ⟨rfl, hM6⟩
          have HM6 := Lib.hid (HA4.out.drew.trans hM6)
          clear hM6
          go_wp2_with (first
            | (refine ord_pure rfl rfl rfl (fun K hK => ?_); go_big_quiet_op; refine hK _ ?_; clear hK K)
                        | (refine ord_skip rfl rfl ?_; simp only [Act.put, List.setIfInBounds_toArray, List.set_cons_zero, List.set_cons_succ])
                        | (refine ord_held rfl rfl rfl (⟨by first | exact t0 | simpa using t0, ⟨by first | exact x0 | simpa using x0, by first | exact x1 | simpa using x1, by first | exact x2 | simpa using x2⟩, ⟨by first | exact y0 | simpa using y0, by first | exact y1 | simpa using y1, by first | exact y2 | simpa using y2⟩⟩) (fun K hK => ?_); apply Exists.intro; refine ⟨fun w' hs => ?_, hK _ ?_⟩; (revert hs; dsimp only; (try simp only [and_imp]); intros; go_simp; rfl); clear hK K)
                        | (refine ord_keep rfl rfl (⟨by first | exact t0 | simpa using t0, ⟨by first | exact x0 | simpa using x0, by first | exact x1 | simpa using x1, by first | exact x2 | simpa using x2⟩, ⟨by first | exact y0 | simpa using y0, by first | exact y1 | simpa using y1, by first | exact y2 | simpa using y2⟩⟩) (fun K hK => ?_))
                        | (refine ord_drop rfl rfl (fun K hK => ?_))
                        | (refine ord_nil ?_))
          go_meet
          case rel => exact HM6
        · have e0 : (R2 == 0) = false := by simpa using h0
          clear HOK
          go_wp2_with fail
          go_meet
          case rel => exact HM3
      case rest =>
        have HMC2 : Hid (Mod (fun _ => False) wr wc) := hcut
        clear hcut HM3 HOK
        have t0 := (hM.out.trans HMC2.out).cell HP0.out id
        have x0 := HMC2.out.cell HX0.out id; have x1 := HMC2.out.cell HX1.out id
        have HOA := Lib.hid (ownAtom_any pr hts _ wc (HTS.out.mod0 HMC2.out) HSR.out.1.2.1)
        go_wp2_with fail
        refine HOA.out.mono ?_
        rintro e w7 ⟨g, c9, rfl, hT7, hg, hM7⟩
        have HPA := Lib.hid (Atom_any ⟨pr, hts⟩ _ w7 HSR.out.1 hT7.at)
        have HM7 := Lib.hid (HMC2.out.trans hM7)
        have HOK := Lib.hid (outP_ok (e := mayAm false ⟨pr, hts⟩) (l := amT ⟨pr, hts⟩))
        clear HOA t0 x0 x1 hT7 hM7 HMC2
        unfold SayP at HPA
        generalize outP (mayAm false ⟨pr, hts⟩) (amT ⟨pr, hts⟩) = X at *
        obtain ⟨A1, A2⟩ := X
        simp only at HPA HOK
        go_wp2_with fail
        refine HPA.out.mono ?_
        rintro e w8 ⟨rfl, hM8⟩
        have HM8 := Lib.hid (HM7.out.trans hM8)
        clear hM8 HPA HM7
        by_cases h0 : A2 = 0
        · subst h0
          obtain ⟨hm0, hl0, rfl⟩ := HOK.out rfl
          have HPB := Lib.hid (fun c w hT => parseAtom_of (am_back hm0 hl0) (by rw [ba_size]; omega) c w hT)
          simp only at HPB
          obtain ⟨Q, hQ⟩ : ∃ Q : ByteArray, Q = ⟨(amT ⟨pr, hts⟩).toArray⟩ := ⟨_, rfl⟩
          rw [← hQ] at HPB ⊢
          clear hQ hm0 hl0 HOK
          go_wp2_with (first
            | (go_at_call 10; refine (HN.out _ _).mono ?_; rintro e w' ⟨rfl, rfl⟩))
          refine (HPB.out _ _ (tabs_mod HT.out (HMW.out.trans HM8.out))).mono ?_
          rintro e w4 ⟨s, rfl, hts4, hM4⟩
          have HA4 : Hid (Mod (fun _ => False) wr (w4.alloc (.cells #[.string pr, s] 43))) := Lib.hid ((HM8.out.trans hM4).alloc _)
          have HC4 := Lib.hid (heap_alloc_new w4 (.cells #[.string pr, s] 43))
          have hm44 : Mod (fun _ => False) w4 (w4.alloc (.cells #[.string pr, s] 43)) := (Mod.refl _ w4).alloc _
          have HS4 := Lib.hid (fun v (m : Mod (fun _ => False) (w4.alloc (.cells #[.string pr, s] 43)) v) => SameAtom_true pr hts s sk v (hts4.mod0 (hm44.trans m)) (HTS.out.mod0 (HA4.out.trans m)) HSR.out.1.2.1)
          obtain ⟨sa4, sc4, rfl, _⟩ := hts4
          simp only at *
          clear hM4 HPB hm44
          have t0 := (hM.out.trans HA4.out).cell HP0.out id
          have x0 := HA4.out.cell HX0.out id; have x1 := HA4.out.cell HX1.out id
          have y0 := cell_at (j := 0) HC4.out rfl; have y1 := cell_at (j := 1) HC4.out rfl
          have HNR := Lib.hid (num9_any 0)
          go_wp2_with fail
          refine wp_region_ord (fun w' => (w'.cell? ⟨w.heap.size, 0, none⟩ = some (.slice (some ⟨bb, o, none⟩) rs.length c0)) ∧ (w'.cell? ⟨bb, o + k * 3, none⟩ = some (.string pr) ∧ w'.cell? ⟨bb, o + k * 3 + 1, none⟩ = some sk) ∧ (w'.cell? ⟨w4.heap.size, 0, none⟩ = some (.string pr) ∧ w'.cell? ⟨w4.heap.size, 1, none⟩ = some (.slice sa4 hts.length sc4))) [(0, 0), (3, 1), (0, 2), (0, 3), (1, 4), (0, 5), (1, 6), (0, 7), (0, 8), (0, 9), (1, 10), (3, 11), (0, 12), (0, 13)] (by kernel_rfl) (by kernel_rfl) ?_
          go_wp2_with (first
            | (refine ord_pure rfl rfl rfl (fun K hK => ?_); go_big_quiet_op; refine hK _ ?_; clear hK K)
                        | (refine ord_skip rfl rfl ?_; simp only [Act.put, List.setIfInBounds_toArray, List.set_cons_zero, List.set_cons_succ])
                        | (refine ord_held rfl rfl rfl (⟨by first | exact t0 | simpa using t0, ⟨by first | exact x0 | simpa using x0, by first | exact x1 | simpa using x1⟩, ⟨by first | exact y0 | simpa using y0, by first | exact y1 | simpa using y1⟩⟩) (fun K hK => ?_); apply Exists.intro; refine ⟨fun w' hs => ?_, hK _ ?_⟩; (revert hs; dsimp only; (try simp only [and_imp]); intros; go_simp; rfl); clear hK K)
                        | (refine ord_keep rfl rfl (⟨by first | exact t0 | simpa using t0, ⟨by first | exact x0 | simpa using x0, by first | exact x1 | simpa using x1⟩, ⟨by first | exact y0 | simpa using y0, by first | exact y1 | simpa using y1⟩⟩) (fun K hK => ?_))
                        | (refine ord_drop rfl rfl (fun K hK => ?_))
                        | (refine ord_nil ?_))
          refine (HNR.out _).mono ?_
          rintro e w5 ⟨rfl, rfl⟩
          go_wp2_with (first
            | (refine ord_pure rfl rfl rfl (fun K hK => ?_); go_big_quiet_op; refine hK _ ?_; clear hK K)
                        | (refine ord_skip rfl rfl ?_; simp only [Act.put, List.setIfInBounds_toArray, List.set_cons_zero, List.set_cons_succ])
                        | (refine ord_held rfl rfl rfl (⟨by first | exact t0 | simpa using t0, ⟨by first | exact x0 | simpa using x0, by first | exact x1 | simpa using x1⟩, ⟨by first | exact y0 | simpa using y0, by first | exact y1 | simpa using y1⟩⟩) (fun K hK => ?_); apply Exists.intro; refine ⟨fun w' hs => ?_, hK _ ?_⟩; (revert hs; dsimp only; (try simp only [and_imp]); intros; go_simp; rfl); clear hK K)
                        | (refine ord_keep rfl rfl (⟨by first | exact t0 | simpa using t0, ⟨by first | exact x0 | simpa using x0, by first | exact x1 | simpa using x1⟩, ⟨by first | exact y0 | simpa using y0, by first | exact y1 | simpa using y1⟩⟩) (fun K hK => ?_))
                        | (refine ord_drop rfl rfl (fun K hK => ?_))
                        | (refine ord_nil ?_))
          refine (HS4.out _ ((Mod.refl _ _).drew)).mono ?_
          rintro e w6 ⟨rfl, hM6⟩
          have HM6 := Lib.hid (HA4.out.drew.trans hM6)
          clear hM6
          go_wp2_with (first
            | (refine ord_pure rfl rfl rfl (fun K hK => ?_); go_big_quiet_op; refine hK _ ?_; clear hK K)
                        | (refine ord_skip rfl rfl ?_; simp only [Act.put, List.setIfInBounds_toArray, List.set_cons_zero, List.set_cons_succ])
                        | (refine ord_held rfl rfl rfl (⟨by first | exact t0 | simpa using t0, ⟨by first | exact x0 | simpa using x0, by first | exact x1 | simpa using x1⟩, ⟨by first | exact y0 | simpa using y0, by first | exact y1 | simpa using y1⟩⟩) (fun K hK => ?_); apply Exists.intro; refine ⟨fun w' hs => ?_, hK _ ?_⟩; (revert hs; dsimp only; (try simp only [and_imp]); intros; go_simp; rfl); clear hK K)
                        | (refine ord_keep rfl rfl (⟨by first | exact t0 | simpa using t0, ⟨by first | exact x0 | simpa using x0, by first | exact x1 | simpa using x1⟩, ⟨by first | exact y0 | simpa using y0, by first | exact y1 | simpa using y1⟩⟩) (fun K hK => ?_))
                        | (refine ord_drop rfl rfl (fun K hK => ?_))
                        | (refine ord_nil ?_))
          go_roundw
          case rel => exact ⟨k + 1, by go_num, hlt, Lib.hid (hM.out.trans HM6.out)⟩
          case measure => simp [intOf]; omega
        · have e0 : (A2 == 0) = false := by simpa using h0
          clear HOK
          go_wp2_with (first
            | (go_at_call 10; refine (HN.out _ _).mono ?_; rintro e w' ⟨rfl, rfl⟩))
          go_roundw
          case rel => exact ⟨k + 1, by go_num, hlt, Lib.hid (hM.out.trans HM8.out)⟩
          case measure => simp [intOf]; omega
    · obtain rfl : k = rs.length := by omega
      have HWR : Hid (Mod (fun _ => False) w wr) := Lib.hid (HMA.out.trans hM.out)
      clear HMC HX HR HXT HP0 HMA hM
      have HPS := Lib.hid (fun a0 c0 W => parse_says l l.length rfl (by omega) a0 c0 W)
      have hmay : mayPm (valOf [] (progS ⟨l.toArray⟩)) = 0 := by
        rcases hh : progS ⟨l.toArray⟩ with x | rs2
        · exact of_decide_eq_true (by kernel_rfl)
        · exact prog_may hh
      have hsm2 : SmallPm (valOf [] (progS ⟨l.toArray⟩)) := by
        have h := progV_small ⟨l.toArray⟩
        exact ⟨by omega, fun r hr => RmS.smallR (h.2 r hr)⟩
      have HMAY := Lib.hid hmay; have HSM2 := Lib.hid hsm2
      unfold PSay at HPS
      clear hmay hsm2
      generalize valOf [] (progS ⟨l.toArray⟩) = rs2 at *
      generalize noOf (progS ⟨l.toArray⟩) = no2 at *
      generalize atOf (progS ⟨l.toArray⟩) = at2 at *
      go_wp2_with (
        (at_builtin; refine wpL_append rfl (.tmp 140) (.tmp 141) 34 34 rfl ti24 rfl (Mine.Own.made _ 5 1 #[] 0 0 (by omega) (by unfold maxLen; omega) rfl) rfl (Src.ofRd ti24.ht l.length c (HL.out.mod (HWR.out.alloc _) (fun _ _ => id)) (by simp) (bts_one l)) (by omega) (by unfold maxLen; omega) ?_; intro a2 c2 w2 hO2 hG2 _
         simp only [Nat.zero_add, List.take_nil, List.nil_append, Nat.zero_mul] at hO2
         simp only [Nat.zero_add]
         have HO2 := Lib.hid hO2; have HG2 := Lib.hid hG2; clear hO2 hG2))
      have HA2 : Hid (Mod (fun _ => False) w w2) := Lib.hid ((HWR.out.alloc _).step (HG2.out.mod) (fun i hi e => by
        have e2 : wr.heap.size = i := Option.some.inj e
        have := HWR.out.size
        omega))
      refine (HPS.out _ _ _ HO2.out.rd (tabs_mod HT.out HA2.out)).mono ?_
      rintro e w3 ⟨s, rfl, hrs, hM3⟩
      obtain ⟨sa, sc, _, hse, _⟩ := id hrs
      subst hse
      have hm4 : Mod (fun _ => False) w3 (w3.alloc (.cells #[.slice sa rs2.length sc] 24)) := (Mod.refl _ w3).alloc _
      have HM4 : Hid (Mod (fun _ => False) w (w3.alloc (.cells #[.slice sa rs2.length sc] 24))) := Lib.hid ((HA2.out.trans hM3).trans hm4)
      have HRS := Lib.hid (hrs.mod0 hm4)
      have HC4 := Lib.hid (heap_alloc_new w3 (.cells #[.slice sa rs2.length sc] 24))
      clear hrs hM3 hm4 HO2 HG2 HA2 HPS t0
      have y0 := cell_at (j := 0) HC4.out rfl
      have HN0 := Lib.hid (num9_any no2)
      by_cases h0 : no2 = 0
      · subst h0
        have HPR := Lib.hid (fun s v (m : RsAt v s rs2) => Program_any rs2 s v HSM2.out m)
        rw [HMAY.out] at HPR
        have HOK := Lib.hid (outP_ok (e := 0) (l := pmT rs2)); have HTH := Lib.hid (outP_three (l := pmT rs2))
        unfold SayP at HPR
        generalize outP 0 (pmT rs2) = X at *
        obtain ⟨Y1, Y2⟩ := X
        simp only at HPR HOK HTH
        go_wp2_with (first
          | (go_at_call 10; refine (HN0.out _).mono ?_; rintro e w' ⟨rfl, rfl⟩))
        refine (HPR.out _ _ HRS.out).mono ?_
        rintro e w5 ⟨rfl, hM5⟩
        have HM5 := Lib.hid hM5
        clear hM5 y0
        have HN1 := Lib.hid (num9_any Y2)
        by_cases h1 : Y2 = 0
        · subst h1
          obtain ⟨_, hl0, hY⟩ := HOK.out rfl
          have hpb := prog_back HMAY.out hl0
          have HPB := Lib.hid (fun c w hT => parse_of hpb (by rw [ba_size]; omega) c w hT)
          rw [← hY] at HPB
          obtain ⟨Q, hQ⟩ : ∃ Q : ByteArray, Q = ⟨Y1.toArray⟩ := ⟨_, rfl⟩
          rw [← hQ] at HPB HPR ⊢
          clear hQ hl0 hY hpb HOK HTH
          go_wp2_with (first
            | (go_at_call 10; refine (HN1.out _).mono ?_; rintro e w' ⟨rfl, rfl⟩))
          refine (HPB.out _ _ (tabs_mod HT.out (HM4.out.trans HM5.out))).mono ?_
          rintro e w6 ⟨s, rfl, hrs, hM6⟩
          obtain ⟨sb, sd, _, hse, _⟩ := id hrs
          subst hse
          have hm7 : Mod (fun _ => False) w6 (w6.alloc (.cells #[.slice sb rs2.length sd] 24)) := (Mod.refl _ w6).alloc _
          have HM7 : Hid (Mod (fun _ => False) (w3.alloc (.cells #[.slice sa rs2.length sc] 24)) (w6.alloc (.cells #[.slice sb rs2.length sd] 24))) := Lib.hid ((HM5.out.trans hM6).trans hm7)
          have HRS7 := Lib.hid (hrs.mod0 hm7)
          have HC7 := Lib.hid (heap_alloc_new w6 (.cells #[.slice sb rs2.length sd] 24))
          have HSA := Lib.hid (same9_true rs2 _ _ _ HRS7.out (HRS.out.mod0 HM7.out) HSM2.out)
          clear hrs hM6 hm7 HM5 HPB
          have y0 := cell_at (j := 0) (HM7.out.at HC4.out id) rfl
          have z0 := cell_at (j := 0) HC7.out rfl
          go_wp2_with (first
            | (go_at_call 10; refine (HN1.out _).mono ?_; rintro e w' ⟨rfl, rfl⟩))
          refine HSA.out.mono ?_
          rintro e w8 ⟨rfl, hM8⟩
          have HM8 := Lib.hid hM8
          clear hM8 y0 z0
          have z0 := cell_at (j := 0) (HM8.out.at HC7.out id) rfl
          go_wp2_with fail
          refine (HPR.out _ _ (HRS7.out.mod0 HM8.out)).mono ?_
          rintro e w9 ⟨rfl, hM9⟩
          have HM9 := Lib.hid ((HM4.out.trans HM7.out).trans (HM8.out.trans hM9))
          clear hM9 z0 HPR
          go_wp2_with (first
            | (go_at_call 10; refine (HN1.out _).mono ?_; rintro e w' ⟨rfl, rfl⟩))
          go_ret
          exact ⟨rfl, HM9.out⟩
        · have h3 := HTH.out h1
          subst h3
          clear HOK HTH
          go_wp2_with (first
            | (go_at_call 10; refine (HN1.out _).mono ?_; rintro e w' ⟨rfl, rfl⟩))
          go_ret
          exact ⟨rfl, HM4.out.trans HM5.out⟩
      · have e0 : ((no2 : Int) == 0) = false := by simp; omega
        have e1 : ¬ ((no2 : Int) = 0) := by omega
        go_wp2_with (first
          | (go_at_call 10; refine (HN0.out _).mono ?_; rintro e w' ⟨rfl, rfl⟩))
        go_ret
        exact ⟨rfl, HM4.out⟩
end Go.Proofs.YteecbbnpgmceiaaGreatDoor
