/-
  Rules, programs that may be: package syntax's walks.
-/
import Derived.Test.YtidgpcjnfkhjoaaDoorMay2
namespace Go.Proofs.YtidgpcjnfkhjoaaDoor
open Go Go.RowKit Go.Mine
set_option linter.unusedVariables false
set_option maxHeartbeats 4000000
set_option maxRecDepth 100000

theorem MayAtom_any (a : Am) (s : Value) (w : World) (hs : SmallAm a) (ht : TsAt w s a.terms) :
    Calls Tryd.prog 44 #[.agg #[.string a.pred, s]] w fun e w' => e = .returned (.int .i64 (mayAm false a)) ∧ Mod (fun _ => False) w w' := by
  have hM0 := (Mod.refl (fun _ => False) w).alloc (.cells #[.string a.pred, s] 40)
  have HA := Lib.hid (mayAtom_any false a s _ hs (ht.mod0 hM0))
  have HM0 := Lib.hid hM0
  obtain ⟨ad, c, rfl, hr⟩ := ht
  clear hr hM0
  go_enter Tryd.func44, Tryd.ntmps44
  go_wp2_with (first
    | (go_at_call 96; refine HA.out.mono ?_; rintro e w' ⟨rfl, hM2⟩; have HM2 := Lib.hid hM2; clear hM2))
  go_ret
  exact ⟨rfl, HM0.out.trans HM2.out⟩
theorem MayRule_any (r : Rm) (s b : Value) (w : World) (hs : SmallRm r) (ht : TsAt w s r.head.terms) (hb : LsAt w b r.body) :
    Calls Tryd.prog 43 #[rmV r s b] w fun e w' => e = .returned (.int .i64 (mayRm r)) ∧ Mod (fun _ => False) w w' := by
  obtain ⟨h, ls⟩ := r
  obtain ⟨hsh, hsl, hss⟩ := hs
  unfold rmV
  simp only at ht hb hsh hsl hss ⊢
  have hM0 := (Mod.refl (fun _ => False) w).alloc (.cells #[.string h.pred, s, b] 43)
  have HA := Lib.hid (mayAtom_any true h s _ hsh (ht.mod0 hM0))
  obtain ⟨v, hv⟩ : ∃ v, v = mayRm ⟨h, ls⟩ := ⟨_, rfl⟩
  rw [← hv]
  unfold mayRm at hv
  simp only at hv
  generalize mayAm true h = x at *
  obtain ⟨ad, c, rfl, hr⟩ := ht
  clear hr
  have HB := Lib.hid hb
  obtain ⟨bd, bc, xs, rfl, hx, hrx, hxt⟩ := hb
  have HR := Lib.hid hrx; have HX := Lib.hid hx; have HXT := Lib.hid hxt
  have HSS := Lib.hid hss
  clear hrx hx hxt hss HB
  have hcc : (w.alloc (.cells #[.string h.pred, .slice ad h.terms.length c, .slice bd ls.length bc] 43)).cell? ⟨w.heap.size, 2, none⟩ = some (.slice bd ls.length bc) := cell_new rfl
  by_cases hx0 : x = 0
  · subst hx0
    rw [if_neg (by simp)] at hv
    by_cases h64 : 64 < ls.length
    · rw [if_pos h64] at hv
      subst hv
      go_enter Tryd.func43, Tryd.ntmps43
      go_wp2_with (first
        | (go_at_call 96; refine (HA.out).mono ?_; rintro e w1 ⟨rfl, hM⟩
           have hM1 := hM0.trans hM
           have hc2 := hM.cell hcc id
           have HM1 := Lib.hid hM1; clear hM hM1))
      go_ret
      exact ⟨rfl, HM1.out⟩
    · rw [if_neg h64] at hv
      have HV : Hid (mayLs (ls.drop 0) = v) := hv.symm
      clear hv
      go_enter Tryd.func43, Tryd.ntmps43
      go_wp2_with (first
        | (go_at_call 96; refine (HA.out).mono ?_; rintro e w1 ⟨rfl, hM⟩
           have hM1 := hM0.trans hM
           have hc2 := hM.cell hcc id
           have HM1 := Lib.hid hM1; clear hM hM1))
      clear hcc hM0 HA
      go_loopw [20] (fun iv wr => ∃ (k : Nat), iv = .int .i64 k ∧ k ≤ ls.length ∧ Hid (mayLs (ls.drop k) = v) ∧ Hid (Mod (fun _ => False) w wr)) (fun iv _ => ls.length - (intOf iv).toNat)
      case atStart => exact ⟨0, rfl, Nat.zero_le _, HV, HM1⟩
      case round =>
        obtain ⟨k, rfl, hk, hV, hM⟩ := hrel
        clear HV HM1 hc2
        by_cases hlt : k < ls.length
        · obtain ⟨sk, hx, hmem⟩ := xs_get HX.out hlt
          obtain ⟨b, o, rfl, x0, x1, x2, x3, x4, x5, x6, x7⟩ := rd_cell8 (HR.out.mod hM.out (fun _ _ => id)) hx
          have HT := Lib.hid (fun w' (m : Mod (fun _ => False) w w') => mayLit_any ls[k] sk w' (HSS.out _ (List.getElem_mem hlt)) ((HXT.out _ hmem).mod0 m))
          obtain ⟨sa, sc, hsk, _⟩ := HXT.out _ hmem
          simp only at hsk
          subst hsk
          have hd := hV.out
          rw [List.drop_eq_getElem_cons hlt, mayLs] at hd
          have HD := Lib.hid hd
          unfold lmV at HT
          clear hV hx hmem hd
          simp only at x2 HT
          generalize mayLm ls[k] = mt at *
          generalize ls[k] = l at *
          obtain ⟨lk, ⟨lp, lts⟩, lo, ⟨ll1, ll2⟩, ⟨lr1, lr2⟩⟩ := l
          simp only at *
          by_cases hm : mt = 0
          · have HV2 : Hid (mayLs (ls.drop (k + 1)) = v) := by
              have := HD.out; rwa [if_neg (by simpa using hm)] at this
            subst hm
            go_wp2_with (first
              | (go_at_call 97; refine (HT.out _ (hM.out.alloc _)).mono ?_; rintro e w' ⟨rfl, hM2⟩; have HM2 := Lib.hid hM2; clear hM2))
            go_roundw
            case rel => exact ⟨k + 1, by go_num, hlt, HV2, Lib.hid ((hM.out.alloc _).trans HM2.out)⟩
            case measure => simp [intOf]; omega
          · have HV2 : Hid (mt = v) := by have := HD.out; rwa [if_pos hm] at this
            have hmb : (mt != 0) = true := by simpa using hm
            clear hm
            go_wp2_with (first
              | (go_at_call 97; refine (HT.out _ (hM.out.alloc _)).mono ?_; rintro e w' ⟨rfl, hM2⟩; have HM2 := Lib.hid hM2; clear hM2))
            go_ret
            exact ⟨ret_i HV2.out, (hM.out.alloc _).trans HM2.out⟩
        · obtain rfl : k = ls.length := by omega
          have HV2 : Hid (0 = v) := by have := hV.out; rwa [List.drop_length, mayLs] at this
          go_wp2
          go_ret
          exact ⟨ret_i HV2.out, hM.out⟩
  · rw [if_pos hx0] at hv
    subst hv
    have hxb : (v != 0) = true := by simpa using hx0
    clear hx0
    go_enter Tryd.func43, Tryd.ntmps43
    go_wp2_with (first
      | (go_at_call 96; refine (HA.out).mono ?_; rintro e w1 ⟨rfl, hM⟩
         have hM1 := hM0.trans hM
         have hc2 := hM.cell hcc id
         have HM1 := Lib.hid hM1; clear hM hM1))
    go_ret
    exact ⟨rfl, HM1.out⟩
theorem xs_get3 {xs : List (Rm × Value × Value)} {ls : List Rm} (h : xs.map Prod.fst = ls) {i : Nat} (hi : i < ls.length) : ∃ s b, xs[i]? = some (ls[i], s, b) ∧ (ls[i], s, b) ∈ xs := by
  obtain ⟨⟨s, b⟩, h1, h2⟩ := xs_get h hi
  exact ⟨s, b, h1, h2⟩
theorem May_any (rs : List Rm) (v0 : Value) (w : World) (hs : SmallPm rs) (hp : RsAt w v0 rs) :
    Calls Tryd.prog 40 #[.agg #[v0]] w fun e w' => e = .returned (.int .i64 (mayPm rs)) ∧ Mod (fun _ => False) w w' := by
  obtain ⟨hsl, hss⟩ := hs
  obtain ⟨v, hv⟩ : ∃ v, v = mayPm rs := ⟨_, rfl⟩
  rw [← hv]
  unfold mayPm at hv
  obtain ⟨ad, c, xs, rfl, hx, hrx, hxt⟩ := hp
  have HR := Lib.hid hrx; have HX := Lib.hid hx; have HXT := Lib.hid hxt
  have HSS := Lib.hid hss
  clear hrx hx hxt hss
  by_cases h64 : 1024 < rs.length
  · rw [if_pos h64] at hv
    subst hv
    go_enter Tryd.func40, Tryd.ntmps40
    go_wp2_with fail
    go_ret
    exact ⟨rfl, (Mod.refl _ w).alloc _⟩
  · rw [if_neg h64] at hv
    have HV : Hid (mayRs (rs.drop 0) = v) := hv.symm
    clear hv
    go_enter Tryd.func40, Tryd.ntmps40
    go_wp2_with fail
    obtain ⟨ls, hls⟩ : ∃ ls, ls = rs := ⟨_, rfl⟩
    rw [← hls] at HV HX HSS hsl h64 ⊢
    clear hls
    go_loopw [13] (fun iv wr => ∃ (k : Nat), iv = .int .i64 k ∧ k ≤ ls.length ∧ Hid (mayRs (ls.drop k) = v) ∧ Hid (Mod (fun _ => False) w wr)) (fun iv _ => ls.length - (intOf iv).toNat)
    case atStart => exact ⟨0, rfl, Nat.zero_le _, HV, Lib.hid ((Mod.refl _ w).alloc _)⟩
    case round =>
      obtain ⟨k, rfl, hk, hV, hM⟩ := hrel
      clear HV
      by_cases hlt : k < ls.length
      · obtain ⟨sk, bk, hx, hmem⟩ := xs_get3 HX.out hlt
        obtain ⟨b, o, rfl, x0, x1, x2⟩ := rd_cellR (HR.out.mod hM.out (fun _ _ => id)) hx
        have HT := Lib.hid (fun w' (m : Mod (fun _ => False) w w') => MayRule_any ls[k] sk bk w' (HSS.out _ (List.getElem_mem hlt)) ((HXT.out _ hmem).1.mod0 m) ((HXT.out _ hmem).2.mod0 m))
        obtain ⟨⟨sa, sc, hsk, _⟩, ⟨ba, bc, _, hbk, _⟩⟩ := HXT.out _ hmem
        simp only at hsk hbk
        subst hsk hbk
        have hd := hV.out
        rw [List.drop_eq_getElem_cons hlt, mayRs] at hd
        have HD := Lib.hid hd
        unfold rmV at HT
        clear hV hx hmem hd
        simp only at x1 x2 HT
        generalize mayRm ls[k] = mt at *
        generalize ls[k] = l at *
        obtain ⟨⟨lp, lts⟩, lb⟩ := l
        simp only at *
        by_cases hm : mt = 0
        · have HV2 : Hid (mayRs (ls.drop (k + 1)) = v) := by
            have := HD.out; rwa [if_neg (by simpa using hm)] at this
          subst hm
          go_wp2_with (first
            | (go_at_call 43; refine (HT.out _ (hM.out.alloc _)).mono ?_; rintro e w' ⟨rfl, hM2⟩; have HM2 := Lib.hid hM2; clear hM2))
          go_roundw
          case rel => exact ⟨k + 1, by go_num, hlt, HV2, Lib.hid ((hM.out.alloc _).trans HM2.out)⟩
          case measure => simp [intOf]; omega
        · have HV2 : Hid (mt = v) := by have := HD.out; rwa [if_pos hm] at this
          have hmb : (mt != 0) = true := by simpa using hm
          clear hm
          go_wp2_with (first
            | (go_at_call 43; refine (HT.out _ (hM.out.alloc _)).mono ?_; rintro e w' ⟨rfl, hM2⟩; have HM2 := Lib.hid hM2; clear hM2))
          go_ret
          exact ⟨ret_i HV2.out, (hM.out.alloc _).trans HM2.out⟩
      · obtain rfl : k = ls.length := by omega
        have HV2 : Hid (0 = v) := by have := hV.out; rwa [List.drop_length, mayRs] at this
        go_wp2
        go_ret
        exact ⟨ret_i HV2.out, hM.out⟩
end Go.Proofs.YtidgpcjnfkhjoaaDoor
