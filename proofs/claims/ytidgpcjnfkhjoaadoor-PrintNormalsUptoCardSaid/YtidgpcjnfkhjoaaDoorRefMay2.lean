/-
  Literals, rules, programs that may be: the document's answer, walked.
-/
import Derived.Test.YtidgpcjnfkhjoaaDoorRefMay
namespace Go.Proofs.YtidgpcjnfkhjoaaDoor
open Go Go.RowKit Go.Mine
set_option linter.unusedVariables false
set_option maxHeartbeats 4000000
set_option maxRecDepth 100000

theorem tm_neql (a b : Int) (s t : ByteArray) (w : World) : (binOp .neq 76 (.agg #[.int .i64 a, .string s]) (.agg #[.int .i64 b, .string t])).run Tryd.prog w = .ok (.bool (!(a == b && s.toList == t.toList))) w := by
  have u3 := Tryd.underlying3
  have hS : Tryd.prog.underlying 76 = some (.struct (Tryd.prog.fieldsOf 76)) := by kernel_rfl
  have hp : Tryd.prog.stoodInHeld 76 = false := by kernel_rfl
  rw [run_neq_struct, show (10000 : Nat) = 9999 + 1 from rfl, run_equalIn_agg w 9999 76 _ _ hS hp]
  simp only [Program.fieldsOf, Tryd.underlying76]
  go_simp
  by_cases h1 : a = b <;> by_cases h2 : s.toList = t.toList <;> simp [h1, h2]
theorem tm_nzero (a : Int) (s : ByteArray) (w : World) : (binOp .neq 76 (.agg #[.int .i64 a, .string s]) (.agg #[.int .i64 0, .string ⟨#[]⟩])).run Tryd.prog w = .ok (.bool (!zeroT a s)) w := by
  rw [tm_neql]
  unfold zeroT
  have : (⟨#[]⟩ : ByteArray).toList = [] := by rw [ByteArray.toList_eq]
  rw [this]
theorem refMayLit_any (l : Lm) (s : Value) (w : World) (hs : SmallLm l) (ht : TsAt w s l.atom.terms) :
    Calls Tryd.prog 99 #[lmV l s] w fun e w' => e = .returned (.int .i64 (mayLm l)) ∧ Mod (fun _ => False) w w' := by
  obtain ⟨k, ⟨p, ts⟩, op, ⟨lk, lt⟩, ⟨rk, rt⟩⟩ := l
  obtain ⟨ha, hls, hrs⟩ := hs
  unfold lmV
  simp only at ha hls hrs ht ⊢
  have hM0 := fun c0 => (Mod.refl (fun _ => False) w).alloc (.cells c0 78)
  have HA0 := fun c0 => refMayAtom_any false ⟨p, ts⟩ s _ ha (ht.mod0 (hM0 c0))
  have HL := Lib.hid (fun w => refMayTerm_any ⟨lk, lt⟩ w hls)
  have HR := Lib.hid (fun w => refMayTerm_any ⟨rk, rt⟩ w hrs)
  obtain ⟨ad, c, rfl, hr⟩ := ht
  clear hr
  have HA := Lib.hid (HA0 #[.int .i64 k, .string p, .slice ad ts.length c, .int .i64 op, .int .i64 lk, .string lt, .int .i64 rk, .string rt])
  have HM0 := Lib.hid (hM0 #[.int .i64 k, .string p, .slice ad ts.length c, .int .i64 op, .int .i64 lk, .string lt, .int .i64 rk, .string rt])
  clear hM0 HA0
  have hb6 : (w.alloc (.cells #[.int .i64 k, .string p, .slice ad ts.length c, .int .i64 op, .int .i64 lk, .string lt, .int .i64 rk, .string rt] 78)).cell? ⟨w.heap.size, 6, none⟩ = some (.int .i64 rk) := cell_new rfl
  have hb7 : (w.alloc (.cells #[.int .i64 k, .string p, .slice ad ts.length c, .int .i64 op, .int .i64 lk, .string lt, .int .i64 rk, .string rt] 78)).cell? ⟨w.heap.size, 7, none⟩ = some (.string rt) := cell_new rfl
  obtain ⟨v, hv⟩ : ∃ v, v = mayLm ⟨k, ⟨p, ts⟩, op, ⟨lk, lt⟩, ⟨rk, rt⟩⟩ := ⟨_, rfl⟩
  rw [← hv]
  unfold mayLm bareL noneL at hv
  simp only at hv HA
  have tz := tm_nzero lk lt
  have tzr := tm_nzero rk rt
  have z1 : zeroT lk lt = true ↔ lk = 0 ∧ lt = emptyB := zeroT_iff
  have z2 : zeroT rk rt = true ↔ rk = 0 ∧ rt = emptyB := zeroT_iff
  simp only [← z1, ← z2] at hv
  clear z1 z2
  generalize zeroT lk lt = zl at *
  generalize zeroT rk rt = zr at *
  unfold tmV at HL HR
  simp only at HL HR
  generalize mayTm ⟨lk, lt⟩ = ml at *
  generalize mayTm ⟨rk, rt⟩ = mr at *
  by_cases hk : k = 1 ∨ k = 2
  · by_cases hb : op = 0 ∧ zl = true ∧ zr = true
    · rw [if_pos ⟨hk, hb⟩] at hv
      obtain ⟨rfl, rfl, rfl⟩ := hb
      rw [← hv] at HA
      clear hv
      rcases hk with rfl | rfl
      all_goals
        go_enter Tryd.func99, Tryd.ntmps99
        go_wp2_with (first
          | (go_at_call 98; refine HA.out.mono ?_; rintro e w' ⟨rfl, hM2⟩; have HM2 := Lib.hid hM2; clear hM2))
        go_ret
        exact ⟨rfl, HM0.out.trans HM2.out⟩
    · rw [if_neg (fun h => hb h.2), if_pos (by left; omega)] at hv
      subst hv
      clear HA HL HR hb6 hb7
      by_cases ho : op = 0
      · subst ho
        cases zl with
        | false =>
          clear hb
          rcases hk with rfl | rfl
          all_goals
            go_enter Tryd.func99, Tryd.ntmps99
            go_wp2_with fail
            go_ret
            exact ⟨rfl, HM0.out⟩
        | true =>
          obtain rfl : zr = false := by
            cases zr with
            | false => rfl
            | true => exact absurd ⟨rfl, rfl, rfl⟩ hb
          clear hb
          rcases hk with rfl | rfl
          all_goals
            go_enter Tryd.func99, Tryd.ntmps99
            go_wp2_with fail
            go_ret
            exact ⟨rfl, HM0.out⟩
      · have hob : (op != 0) = true := by simpa using ho
        clear hb
        rcases hk with rfl | rfl
        all_goals
          go_enter Tryd.func99, Tryd.ntmps99
          go_wp2_with fail
          go_ret
          exact ⟨rfl, HM0.out⟩
  · rw [if_neg (fun h => hk h.1)] at hv
    have b1 : (k == 1) = false := by simpa using fun h => hk (.inl h)
    have b2 : (k == 2) = false := by simpa using fun h => hk (.inr h)
    clear hk HA tz tzr
    by_cases hk3 : k = 3
    · subst hk3
      clear b1 b2
      by_cases hp : p = emptyB
      · by_cases hl : ts = []
        · subst hl
          unfold emptyB at hp
          subst hp
          simp only [List.length_nil] at *
          by_cases ho1 : op < 1
          · rw [if_pos (.inr (.inr (.inl ho1)))] at hv
            subst hv
            go_enter Tryd.func99, Tryd.ntmps99
            go_wp2_with fail
            go_ret
            exact ⟨rfl, HM0.out⟩
          by_cases ho4 : 4 < op
          · rw [if_pos (.inr (.inr (.inr ho4)))] at hv
            subst hv
            go_enter Tryd.func99, Tryd.ntmps99
            go_wp2_with fail
            go_ret
            exact ⟨rfl, HM0.out⟩
          rw [if_neg (by rintro (h | h | h | h); exact h rfl; exact h ⟨rfl, trivial⟩; exact ho1 h; exact ho4 h)] at hv
          have ho1' : 1 ≤ op := by omega
          have ho4' : op ≤ 4 := by omega
          clear ho1 ho4
          by_cases hl4 : 4 ≤ lk
          · rw [if_pos hl4] at hv
            subst hv
            go_enter Tryd.func99, Tryd.ntmps99
            go_wp2_with fail
            go_ret
            exact ⟨rfl, HM0.out⟩
          rw [if_neg hl4] at hv
          by_cases hml : ml = 0
          · subst hml
            rw [if_neg (by simp)] at hv
            by_cases hr4 : 4 ≤ rk
            · rw [if_pos hr4] at hv
              subst hv
              go_enter Tryd.func99, Tryd.ntmps99
              go_wp2_with (first
                | (go_at_call 152; refine (HL.out _).mono ?_; rintro e w1 ⟨rfl, hM2⟩
                   have y6 := hM2.cell hb6 id
                   have y7 := hM2.cell hb7 id
                   have HM2 := Lib.hid hM2; clear hM2))
              go_ret
              exact ⟨rfl, HM0.out.trans HM2.out⟩
            · rw [if_neg hr4] at hv
              subst hv
              go_enter Tryd.func99, Tryd.ntmps99
              go_wp2_with fail
              refine (HL.out _).mono ?_
              rintro e w1 ⟨rfl, hM2⟩
              have y6 := hM2.cell hb6 id
              have y7 := hM2.cell hb7 id
              have HM2 := Lib.hid hM2; clear hM2
              go_wp2_with fail
              refine (HR.out _).mono ?_
              rintro e w2 ⟨rfl, hM3⟩
              have HM3 := Lib.hid hM3; clear hM3
              go_wp2_with fail
              go_ret
              exact ⟨rfl, HM0.out.trans (HM2.out.trans HM3.out)⟩
          · rw [if_pos hml] at hv
            subst hv
            have hmb : (v != 0) = true := by simpa using hml
            clear hml
            go_enter Tryd.func99, Tryd.ntmps99
            go_wp2_with (first
              | (go_at_call 152; refine (HL.out _).mono ?_; rintro e w1 ⟨rfl, hM2⟩
                 have y6 := hM2.cell hb6 id
                 have y7 := hM2.cell hb7 id
                 have HM2 := Lib.hid hM2; clear hM2))
            go_ret
            exact ⟨rfl, HM0.out.trans HM2.out⟩
        · rw [if_pos (.inr (.inl (fun h => hl h.2)))] at hv
          subst hv
          unfold emptyB at hp
          subst hp
          have hl0 : 0 < ts.length := List.length_pos_iff.2 hl
          clear hl
          go_enter Tryd.func99, Tryd.ntmps99
          go_wp2_with fail
          go_ret
          exact ⟨rfl, HM0.out⟩
      · rw [if_pos (.inr (.inl (fun h => hp h.1)))] at hv
        subst hv
        have hE := empty_ne hp
        clear hp
        go_enter Tryd.func99, Tryd.ntmps99
        go_wp2_with fail
        go_ret
        exact ⟨rfl, HM0.out⟩
    · rw [if_pos (.inl hk3)] at hv
      subst hv
      have b3 : (k != 3) = true := by simpa using hk3
      clear hk3
      go_enter Tryd.func99, Tryd.ntmps99
      go_wp2_with fail
      go_ret
      exact ⟨rfl, HM0.out⟩
theorem RefMayAtom_any (a : Am) (s : Value) (w : World) (hs : SmallAm a) (ht : TsAt w s a.terms) :
    Calls Tryd.prog 46 #[.agg #[.string a.pred, s]] w fun e w' => e = .returned (.int .i64 (mayAm false a)) ∧ Mod (fun _ => False) w w' := by
  have hM0 := (Mod.refl (fun _ => False) w).alloc (.cells #[.string a.pred, s] 40)
  have HA := Lib.hid (refMayAtom_any false a s _ hs (ht.mod0 hM0))
  have HM0 := Lib.hid hM0
  obtain ⟨ad, c, rfl, hr⟩ := ht
  clear hr hM0
  go_enter Tryd.func46, Tryd.ntmps46
  go_wp2_with (first
    | (go_at_call 98; refine HA.out.mono ?_; rintro e w' ⟨rfl, hM2⟩; have HM2 := Lib.hid hM2; clear hM2))
  go_ret
  exact ⟨rfl, HM0.out.trans HM2.out⟩
theorem RefMayRule_any (r : Rm) (s b : Value) (w : World) (hs : SmallRm r) (ht : TsAt w s r.head.terms) (hb : LsAt w b r.body) :
    Calls Tryd.prog 45 #[rmV r s b] w fun e w' => e = .returned (.int .i64 (mayRm r)) ∧ Mod (fun _ => False) w w' := by
  obtain ⟨h, ls⟩ := r
  obtain ⟨hsh, hsl, hss⟩ := hs
  unfold rmV
  simp only at ht hb hsh hsl hss ⊢
  have hM0 := (Mod.refl (fun _ => False) w).alloc (.cells #[.string h.pred, s, b] 43)
  have HA := Lib.hid (refMayAtom_any true h s _ hsh (ht.mod0 hM0))
  obtain ⟨v, hv⟩ : ∃ v, v = mayRm ⟨h, ls⟩ := ⟨_, rfl⟩
  rw [← hv]
  unfold mayRm at hv
  simp only at hv
  generalize mayAm true h = x at *
  obtain ⟨ad, c, rfl, hr⟩ := ht
  clear hr
  obtain ⟨bd, bc, xs, rfl, hx, hrx, hxt⟩ := hb
  have HR := Lib.hid hrx; have HX := Lib.hid hx; have HXT := Lib.hid hxt
  have HSS := Lib.hid hss
  have HM0 := Lib.hid hM0
  clear hrx hx hxt hss hM0
  have hcc : (w.alloc (.cells #[.string h.pred, .slice ad h.terms.length c, .slice bd ls.length bc] 43)).cell? ⟨w.heap.size, 2, none⟩ = some (.slice bd ls.length bc) := cell_new rfl
  by_cases hx0 : x = 0
  · subst hx0
    rw [if_neg (by simp)] at hv
    by_cases h64 : 64 < ls.length
    · rw [if_pos h64] at hv
      subst hv
      go_enter Tryd.func45, Tryd.ntmps45
      go_wp2_with (first
        | (go_at_call 98; refine (HA.out).mono ?_; rintro e w1 ⟨rfl, hM⟩
           have hc2 := hM.cell hcc id
           have HM1 := Lib.hid hM; clear hM))
      go_ret
      exact ⟨rfl, HM0.out.trans HM1.out⟩
    · rw [if_neg h64] at hv
      have HV : Hid (mayLs (ls.drop 0) = v) := hv.symm
      clear hv
      obtain ⟨w0, hw0⟩ : ∃ w0, w0 = w.alloc (.cells #[.string h.pred, .slice ad h.terms.length c, .slice bd ls.length bc] 43) := ⟨_, rfl⟩
      have HB1 : Hid (w0.cell? ⟨w.heap.size, 2, none⟩ = some (.slice bd ls.length bc)) := by rw [hw0]; exact hcc
      have HMW : Hid (∀ w1, Mod (fun _ => False) (w.alloc (.cells #[.string h.pred, .slice ad h.terms.length c, .slice bd ls.length bc] 43)) w1 → Mod (fun _ => False) w0 w1) := by rw [hw0]; exact fun _ h => h
      rw [← hw0] at HM0
      clear hw0
      go_enter Tryd.func45, Tryd.ntmps45
      go_wp2_with (first
        | (go_at_call 98; refine (HA.out).mono ?_; rintro e w1 ⟨rfl, hM⟩
           have hc2 := hM.cell hcc id
           have HM1 := Lib.hid hM; clear hM))
      have HMs := Lib.hid (HMW.out _ HM1.out)
      clear hcc HA HM1 HMW hc2
      go_loopw [4] (fun iv wr => ∃ (k : Nat), iv = .int .i64 k ∧ k ≤ ls.length ∧ Hid (mayLs (ls.drop k) = v) ∧ Hid (Mod (fun _ => False) w0 wr)) (fun iv _ => ls.length - (intOf iv).toNat)
      case atStart => exact ⟨0, rfl, Nat.zero_le _, HV, HMs⟩
      case round =>
        obtain ⟨k, rfl, hk, hV, hM⟩ := hrel
        have hx2 := hM.out.cell HB1.out id
        clear HV HMs
        by_cases hlt : k < ls.length
        · obtain ⟨sk, hx, hmem⟩ := xs_get HX.out hlt
          obtain ⟨b, o, rfl, x0, x1, x2, x3, x4, x5, x6, x7⟩ := rd_cell8 (HR.out.mod (HM0.out.trans hM.out) (fun _ _ => id)) hx
          have HT := Lib.hid (fun w' (m : Mod (fun _ => False) w w') => refMayLit_any ls[k] sk w' (HSS.out _ (List.getElem_mem hlt)) ((HXT.out _ hmem).mod0 m))
          obtain ⟨sa, sc, hsk, _⟩ := HXT.out _ hmem
          simp only at hsk
          subst hsk
          have hd := hV.out
          rw [List.drop_eq_getElem_cons hlt, mayLs] at hd
          have HD := Lib.hid hd
          unfold lmV at HT
          clear hV hx hmem hd
          simp only at x2 HT
          generalize mayLm ls[k] = mt at *
          generalize ls[k] = l at *
          obtain ⟨lk, ⟨lp, lts⟩, lo, ⟨ll1, ll2⟩, ⟨lr1, lr2⟩⟩ := l
          simp only at *
          by_cases hm : mt = 0
          · have HV2 : Hid (mayLs (ls.drop (k + 1)) = v) := by
              have := HD.out; rwa [if_neg (by simpa using hm)] at this
            subst hm
            go_wp2_with (first
              | (go_at_call 99; refine (HT.out _ (HM0.out.trans hM.out)).mono ?_; rintro e w' ⟨rfl, hM2⟩; have HM2 := Lib.hid hM2; clear hM2))
            go_roundw
            case rel => exact ⟨k + 1, by go_num, hlt, HV2, Lib.hid (hM.out.trans HM2.out)⟩
            case measure => simp [intOf]; omega
          · have HV2 : Hid (mt = v) := by have := HD.out; rwa [if_pos hm] at this
            have hmb : (mt != 0) = true := by simpa using hm
            clear hm
            go_wp2_with (first
              | (go_at_call 99; refine (HT.out _ (HM0.out.trans hM.out)).mono ?_; rintro e w' ⟨rfl, hM2⟩; have HM2 := Lib.hid hM2; clear hM2))
            go_ret
            exact ⟨ret_i HV2.out, HM0.out.trans (hM.out.trans HM2.out)⟩
        · obtain rfl : k = ls.length := by omega
          have HV2 : Hid (0 = v) := by have := hV.out; rwa [List.drop_length, mayLs] at this
          go_wp2
          go_ret
          exact ⟨ret_i HV2.out, HM0.out.trans hM.out⟩
  · rw [if_pos hx0] at hv
    subst hv
    have hxb : (v != 0) = true := by simpa using hx0
    clear hx0
    go_enter Tryd.func45, Tryd.ntmps45
    go_wp2_with (first
      | (go_at_call 98; refine (HA.out).mono ?_; rintro e w1 ⟨rfl, hM⟩
         have hc2 := hM.cell hcc id
         have HM1 := Lib.hid hM; clear hM))
    go_ret
    exact ⟨rfl, HM0.out.trans HM1.out⟩
theorem RefMay_any (rs : List Rm) (v0 : Value) (w : World) (hs : SmallPm rs) (hp : RsAt w v0 rs) :
    Calls Tryd.prog 41 #[.agg #[v0]] w fun e w' => e = .returned (.int .i64 (mayPm rs)) ∧ Mod (fun _ => False) w w' := by
  obtain ⟨hsl, hss⟩ := hs
  obtain ⟨v, hv⟩ : ∃ v, v = mayPm rs := ⟨_, rfl⟩
  rw [← hv]
  unfold mayPm at hv
  obtain ⟨ad, c, xs, rfl, hx, hrx, hxt⟩ := hp
  have HR := Lib.hid hrx; have HX := Lib.hid hx; have HXT := Lib.hid hxt
  have HSS := Lib.hid hss
  clear hrx hx hxt hss
  by_cases h64 : 1024 < rs.length
  · rw [if_pos h64] at hv
    subst hv
    go_enter Tryd.func41, Tryd.ntmps41
    go_wp2_with fail
    go_ret
    exact ⟨rfl, (Mod.refl _ w).alloc _⟩
  · rw [if_neg h64] at hv
    have HV : Hid (mayRs (rs.drop 0) = v) := hv.symm
    clear hv
    go_enter Tryd.func41, Tryd.ntmps41
    go_wp2_with fail
    have hcc : (w.alloc (.cells #[.slice ad rs.length c] 52)).cell? ⟨w.heap.size, 0, none⟩ = some (.slice ad rs.length c) := cell_new rfl
    have hm0 : Mod (fun _ => False) w (w.alloc (.cells #[.slice ad rs.length c] 52)) := (Mod.refl _ w).alloc _
    obtain ⟨w0, hw0⟩ : ∃ w0, w0 = w.alloc (.cells #[.slice ad rs.length c] 52) := ⟨_, rfl⟩
    rw [← hw0] at hcc hm0 ⊢
    clear hw0
    have HM0 := Lib.hid hm0
    have HB1 := Lib.hid hcc
    clear hm0 hcc
    obtain ⟨ls, hls⟩ : ∃ ls, ls = rs := ⟨_, rfl⟩
    rw [← hls] at HV HX HSS hsl h64 HB1 ⊢
    clear hls
    go_loopw [3] (fun iv wr => ∃ (k : Nat), iv = .int .i64 k ∧ k ≤ ls.length ∧ Hid (mayRs (ls.drop k) = v) ∧ Hid (Mod (fun _ => False) w0 wr)) (fun iv _ => ls.length - (intOf iv).toNat)
    case atStart => exact ⟨0, rfl, Nat.zero_le _, HV, Lib.hid (Mod.refl _ w0)⟩
    case round =>
      obtain ⟨k, rfl, hk, hV, hM⟩ := hrel
      have hx2 := hM.out.cell HB1.out id
      clear HV
      by_cases hlt : k < ls.length
      · obtain ⟨sk, bk, hx, hmem⟩ := xs_get3 HX.out hlt
        obtain ⟨b, o, rfl, x0, x1, x2⟩ := rd_cellR (HR.out.mod (HM0.out.trans hM.out) (fun _ _ => id)) hx
        have HT := Lib.hid (fun w' (m : Mod (fun _ => False) w w') => RefMayRule_any ls[k] sk bk w' (HSS.out _ (List.getElem_mem hlt)) ((HXT.out _ hmem).1.mod0 m) ((HXT.out _ hmem).2.mod0 m))
        obtain ⟨⟨sa, sc, hsk, _⟩, ⟨ba, bc, _, hbk, _⟩⟩ := HXT.out _ hmem
        simp only at hsk hbk
        subst hsk hbk
        have hd := hV.out
        rw [List.drop_eq_getElem_cons hlt, mayRs] at hd
        have HD := Lib.hid hd
        unfold rmV at HT
        clear hV hx hmem hd
        simp only at x1 x2 HT
        generalize mayRm ls[k] = mt at *
        generalize ls[k] = l at *
        obtain ⟨⟨lp, lts⟩, lb⟩ := l
        simp only at *
        by_cases hm : mt = 0
        · have HV2 : Hid (mayRs (ls.drop (k + 1)) = v) := by
            have := HD.out; rwa [if_neg (by simpa using hm)] at this
          subst hm
          go_wp2_with (first
            | (go_at_call 45; refine (HT.out _ (HM0.out.trans hM.out)).mono ?_; rintro e w' ⟨rfl, hM2⟩; have HM2 := Lib.hid hM2; clear hM2))
          go_roundw
          case rel => exact ⟨k + 1, by go_num, hlt, HV2, Lib.hid (hM.out.trans HM2.out)⟩
          case measure => simp [intOf]; omega
        · have HV2 : Hid (mt = v) := by have := HD.out; rwa [if_pos hm] at this
          have hmb : (mt != 0) = true := by simpa using hm
          clear hm
          go_wp2_with (first
            | (go_at_call 45; refine (HT.out _ (HM0.out.trans hM.out)).mono ?_; rintro e w' ⟨rfl, hM2⟩; have HM2 := Lib.hid hM2; clear hM2))
          go_ret
          exact ⟨ret_i HV2.out, HM0.out.trans (hM.out.trans HM2.out)⟩
      · obtain rfl : k = ls.length := by omega
        have HV2 : Hid (0 = v) := by have := hV.out; rwa [List.drop_length, mayRs] at this
        go_wp2
        go_ret
        exact ⟨ret_i HV2.out, HM0.out.trans hM.out⟩
end Go.Proofs.YtidgpcjnfkhjoaaDoor
