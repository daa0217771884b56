/-
  The document's stands and Safe, walked.
-/
import Derived.Test.YteecbbnpgmceiaaDoorSafeG
namespace Go.Proofs.YteecbbnpgmceiaaDoor
open Go Go.RowKit Go.Mine
set_option linter.unusedVariables false
set_option maxHeartbeats 4000000
set_option maxRecDepth 100000

theorem hasS_app (a b : List ByteArray) (x : ByteArray) : hasS (a ++ b) x = (hasS a x || hasS b x) := by unfold hasS; rw [List.any_append]
theorem hasS_one (y x : ByteArray) : hasS [y] x = decide (x = y) := by simp [hasS]
theorem hasS_body {ls : List Lm} {i k : Nat} {x : ByteArray} (hi : i < ls.length) (hk : k < ls[i].atom.terms.length) (h1 : ls[i].kind = 1) (h2 : ls[i].atom.terms[k].kind = 1) (h3 : ls[i].atom.terms[k].text = x) : hasS (boundL ls) x = true := by
  unfold hasS
  rw [List.any_eq_true]
  refine ⟨x, ?_, by simp⟩
  unfold boundL
  rw [List.mem_flatMap]
  refine ⟨ls[i], List.getElem_mem hi, ?_⟩
  unfold boundT
  rw [List.mem_map]
  exact ⟨ls[i].atom.terms[k], List.mem_filter.2 ⟨List.getElem_mem hk, by simp [h1, h2]⟩, h3⟩
theorem stands_any (r : Rm) (s b : Value) (x : ByteArray) (w : World) (hl : LsAt w b r.body) (hn : r.body.length ≤ 2 ^ 20) (hn2 : ∀ l ∈ r.body, l.atom.terms.length ≤ 2 ^ 20) :
    Calls Tryd.prog 70 #[rmV r s b, .string x] w fun e w' => e = .returned (.bool (hasS (boundL r.body) x)) ∧ Mod (fun _ => False) w w' := by
  obtain ⟨⟨pr, hts⟩, ls⟩ := r
  unfold rmV
  simp only at *
  obtain ⟨d1, k1, xs1, rfl, hx1, hr1, ht1⟩ := hl
  have HX1 := Lib.hid hx1; have HR1 := Lib.hid hr1; have HXT1 := Lib.hid ht1
  have HN2 := Lib.hid hn2
  have hm0 : Mod (fun _ => False) w (w.alloc (.cells #[.string pr, s, .slice d1 ls.length k1] 42)) := (Mod.refl _ w).alloc _
  have q1 : (w.alloc (.cells #[.string pr, s, .slice d1 ls.length k1] 42)).cell? ⟨w.heap.size, 2, none⟩ = some (.slice d1 ls.length k1) := cell_new rfl
  obtain ⟨fin, hfin⟩ : ∃ fin, fin = hasS (boundL ls) x := ⟨_, rfl⟩
  rw [← hfin]
  have HFIN := Lib.hid hfin
  clear hx1 hr1 ht1 hn2 hfin
  go_enter Tryd.func70, Tryd.ntmps70
  go_wp2_with fail
  generalize (w.alloc (.cells #[.string pr, s, .slice d1 ls.length k1] 42)) = w0 at *
  have HM0 := Lib.hid hm0; have HQ1 := Lib.hid q1
  clear hm0 q1
  go_loopw [5] (fun iv wr => ∃ i : Nat, iv = .int .i64 i ∧ i ≤ ls.length ∧ Hid (hasS (boundL (ls.take i)) x = false) ∧ Hid (Mod (fun _ => False) w0 wr)) (fun iv _ => ls.length - (intOf iv).toNat)
  case atStart => exact ⟨0, rfl, Nat.zero_le _, rfl, Lib.hid (Mod.refl _ _)⟩
  case round =>
    obtain ⟨i, rfl, hi, hH, hM⟩ := hrel
    have q1 := hM.out.cell HQ1.out id
    by_cases hlt : i < ls.length
    · obtain ⟨sk1, hx1, hmem1⟩ := xs_get HX1.out hlt
      have hr0 := HR1.out.mod (HM0.out.trans hM.out) (fun _ _ => id)
      have HRW := Lib.hid (fun (v : World) (m : Mod (fun _ => False) wr v) => rd_cell8 (hr0.mod m (fun _ _ => id)) hx1)
      have htn := HN2.out _ (List.getElem_mem hlt)
      obtain ⟨sa, sc, hsk, hrt⟩ := HXT1.out _ hmem1
      simp only at hsk
      subst hsk
      have HRT := Lib.hid hrt
      have HBT := Lib.hid (boundL_take hlt)
      have HFO := Lib.hid (fun (k : Nat) (hk : k < ls[i].atom.terms.length) h1 h2 h3 => HFIN.out.trans (hasS_body (x := x) hlt hk h1 h2 h3))
      clear hx1 hmem1 hrt hr0
      generalize ls[i] = t at *
      obtain ⟨lk, ⟨lp, lts⟩, lo, ⟨ll1, ll2⟩, ⟨lr1, lr2⟩⟩ := t
      simp only at *
      obtain ⟨wo, rfl⟩ : ∃ wo, wo = wr := ⟨_, rfl⟩
      go_wp2_with fail
      go_loopw [6] (fun iv wr => ∃ k : Nat, iv = .int .i64 k ∧ k ≤ lts.length ∧ Hid (hasS (bT ⟨lk, ⟨lp, lts⟩, lo, ⟨ll1, ll2⟩, ⟨lr1, lr2⟩⟩ k) x = false) ∧ Hid (Mod (fun _ => False) wo wr)) (fun iv _ => lts.length - (intOf iv).toNat)
      case atStart => exact ⟨0, rfl, Nat.zero_le _, rfl, Lib.hid (Mod.refl _ _)⟩
      case round =>
        obtain ⟨k, rfl, hk, hH2, hM2⟩ := hrel
        have q1 := (hM.out.trans hM2.out).cell HQ1.out id
        obtain ⟨b1, o1, rfl, x0, x1, x2, x3, x4, x5, x6, x7⟩ := HRW.out _ hM2.out
        clear x1 x3 x4 x5 x6 x7
        by_cases h1 : lk = 1
        · subst h1
          by_cases hlk : k < lts.length
          · obtain ⟨b2, o2, rfl, t0, t1⟩ := rd_cell2 (HRT.out.mod ((HM0.out.trans hM.out).trans hM2.out) (fun _ _ => id)) hlk
            have HF := Lib.hid (fun h2 h3 => HFO.out k hlk rfl h2 h3)
            have HY := Lib.hid (fun (h2 : lts[k].kind = 1) => bT_yes (l := ⟨1, ⟨lp, lts⟩, lo, ⟨ll1, ll2⟩, ⟨lr1, lr2⟩⟩) hlk rfl h2)
            have HNo := Lib.hid (fun h => bT_no (l := ⟨1, ⟨lp, lts⟩, lo, ⟨ll1, ll2⟩, ⟨lr1, lr2⟩⟩) hlk h)
            simp only at HY HNo
            generalize lts[k] = t at *
            obtain ⟨tk, tx⟩ := t
            simp only at *
            by_cases h2 : tk = 1
            · subst h2
              by_cases h3 : tx = x
              · subst h3
                have hff := HF.out rfl rfl
                subst hff
                go_wp2_with fail
                go_ret
                exact ⟨rfl, (HM0.out.trans hM.out).trans (hM2.out.alloc _)⟩
              · have hbx : (tx.toList == x.toList) = false := by rw [baEq, decide_eq_false h3]
                have hH3 : hasS (bT ⟨1, ⟨lp, lts⟩, lo, ⟨ll1, ll2⟩, ⟨lr1, lr2⟩⟩ (k + 1)) x = false := by rw [HY.out rfl, hasS_app, hH2.out, hasS_one, decide_eq_false (fun e => h3 e.symm)]; rfl
                have HH3 := Lib.hid hH3
                clear hH3
                go_wp2_with fail
                go_roundw
                case rel => exact ⟨k + 1, by go_num, hlk, HH3, Lib.hid (hM2.out.alloc _)⟩
                case measure => simp [intOf]; omega
            · have e2 : (tk == 1) = false := by simpa using h2
              have hH3 : hasS (bT ⟨1, ⟨lp, lts⟩, lo, ⟨ll1, ll2⟩, ⟨lr1, lr2⟩⟩ (k + 1)) x = false := by rw [HNo.out (fun h => h2 h.2)]; exact hH2.out
              have HH3 := Lib.hid hH3
              clear hH3
              go_wp2_with fail
              go_roundw
              case rel => exact ⟨k + 1, by go_num, hlk, HH3, Lib.hid (hM2.out.alloc _)⟩
              case measure => simp [intOf]; omega
          · obtain rfl : k = lts.length := by omega
            have hba := bT_all ⟨1, ⟨lp, lts⟩, lo, ⟨ll1, ll2⟩, ⟨lr1, lr2⟩⟩
            simp only at hba
            have hH3 : hasS (boundL (ls.take (i + 1))) x = false := by rw [HBT.out, hasS_app, hH.out, ← hba, hH2.out]; rfl
            have HH3 := Lib.hid hH3
            clear hH3 hba
            go_wp2_with fail
            go_roundw
            case rel => exact ⟨i + 1, by go_num, hlt, HH3, Lib.hid (hM.out.trans hM2.out)⟩
            case measure => simp [intOf]; omega
        · have e1 : (lk == 1) = false := by simpa using h1
          have hH3 : hasS (boundL (ls.take (i + 1))) x = false := by
            rw [HBT.out, hasS_app, hH.out]
            have : boundT ⟨lk, ⟨lp, lts⟩, lo, ⟨ll1, ll2⟩, ⟨lr1, lr2⟩⟩ = [] := by unfold boundT; simp [h1]
            rw [this]; rfl
          have HH3 := Lib.hid hH3
          clear hH3
          go_wp2_with fail
          go_roundw
          case rel => exact ⟨i + 1, by go_num, hlt, HH3, Lib.hid (hM.out.trans hM2.out)⟩
          case measure => simp [intOf]; omega
    · obtain rfl : i = ls.length := by omega
      have hf := hH.out
      rw [List.take_length, ← HFIN.out] at hf
      subst hf
      go_wp2_with fail
      go_ret
      exact ⟨rfl, HM0.out.trans hM.out⟩
end Go.Proofs.YteecbbnpgmceiaaDoor
