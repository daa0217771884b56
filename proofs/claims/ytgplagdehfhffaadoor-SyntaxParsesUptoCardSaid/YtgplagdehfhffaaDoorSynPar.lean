/- SyntaxParses answers true of any bytes of bulk at most 1048576, where the tables of utf8 lie. -/
import Derived.Test.YtgplagdehfhffaaDoorLawR
namespace Go.Proofs.YtgplagdehfhffaaDoor
open Go Go.RowKit Go.Mine
set_option maxHeartbeats 4000000
set_option maxRecDepth 100000
set_option linter.unusedVariables false

theorem synParses_walk (a : Option Addr) (c : Nat) (l : List UInt8) (w : World) (hr : Rd w a (bts l)) (hT : Lib.Utf8Tabs 1 2 w) (hn : l.length ≤ 1048576) :
    Calls Tryd.prog 3 #[.slice a l.length c] w fun e w' => e = .returned (.bool true) ∧ Mod (fun _ => False) w w' := by
  have HR := Lib.hid hr; clear hr
  have HT := Lib.hid hT; clear hT
  have HN := Lib.hid law8Num_any
  have HP1 := Lib.hid (parse_says l l.length rfl (by omega))
  have HF1 := Lib.hid (refParse_says l l.length rfl (by omega))
  have HP2 := Lib.hid (parseRule_says l l.length rfl (by omega))
  have HF2 := Lib.hid (refParseRule_says l l.length rfl (by omega))
  have HP3 := Lib.hid (parseAtom_says l l.length rfl (by omega))
  have HF3 := Lib.hid (refParseAtom_says l l.length rfl (by omega))
  unfold PSay at HP1 HF1
  unfold RSay at HP2 HF2
  unfold ASay at HP3 HF3
  have hz1 := progV_small ⟨l.toArray⟩
  have hz2 := (ruleV_small ⟨l.toArray⟩).smR
  have hz3 := (atomV_small ⟨l.toArray⟩).2.1
  generalize valOf [] (progS ⟨l.toArray⟩) = rs at *
  generalize atOf (progS ⟨l.toArray⟩) = at1 at *
  generalize noOf (progS ⟨l.toArray⟩) = no1 at *
  generalize valOf rm0 (ruleS ⟨l.toArray⟩) = r at *
  generalize atOf (ruleS ⟨l.toArray⟩) = at2 at *
  generalize noOf (ruleS ⟨l.toArray⟩) = no2 at *
  generalize valOf am0 (atomS ⟨l.toArray⟩) = x at *
  generalize atOf (atomS ⟨l.toArray⟩) = at3 at *
  generalize noOf (atomS ⟨l.toArray⟩) = no3 at *
  have HZ1 := Lib.hid (show rs.length < 2 ^ 30 ∧ ∀ r ∈ rs, SmR r from ⟨by omega, fun r hr => (hz1.2 r hr).smR⟩)
  have HZ2 := Lib.hid hz2
  have HZ3 := Lib.hid (show x.terms.length < 2 ^ 30 by omega)
  clear hz1 hz2 hz3
  go_enter Tryd.func3, Tryd.ntmps3
  go_wp2_with fail
  refine (law8Lent_any a c l w HR.out (by omega)).mono ?_
  rintro e w1 ⟨g, c1, rfl, hg, hO1, hM1⟩
  have HO1 := Lib.hid hO1; have HM1 := Lib.hid hM1
  clear hO1 hM1 hg
  have hR1 : ∀ W, Mod (fun _ => False) w1 W → Rd W (some ⟨g, 0, none⟩) (bts l) := fun W m => by
    have := (HO1.out.mod m (fun _ _ => id)).rd.take l.length
    rw [bts_append, List.take_left' (by simp)] at this
    exact this
  have HR1 := Lib.hid hR1; clear hR1
  go_wp2_with fail
  refine (HP1.out _ c1 w1 (HR1.out _ (Mod.refl _ _)) (tabs_mod HT.out HM1.out)).mono ?_
  rintro e w2 ⟨s1, rfl, hs1, hM2⟩
  have HS1 := Lib.hid hs1
  obtain ⟨a2, c2, _, rfl, _⟩ := hs1
  have HM2 := Lib.hid hM2
  have hm2a : Mod (fun _ => False) w2 (w2.alloc (.cells #[.slice a2 rs.length c2] 26)) := (Mod.refl _ w2).alloc _
  have HM2a := Lib.hid hm2a
  have HB1 := Lib.hid (show (w2.alloc (.cells #[.slice a2 rs.length c2] 26)).cell? ⟨w2.heap.size, 0, none⟩ = some (.slice a2 rs.length c2) from cell_new rfl)
  clear hM2 hm2a
  go_wp2_with fail
  refine (HF1.out a c _ (HR.out.mod ((HM1.out.trans HM2.out).trans HM2a.out) (fun _ _ => id))).mono ?_
  rintro e w3 ⟨s2, rfl, hs2, hM3⟩
  have HS2 := Lib.hid hs2
  obtain ⟨a3, c3, _, rfl, _⟩ := hs2
  have hm3a : Mod (fun _ => False) w3 (w3.alloc (.cells #[.slice a3 rs.length c3] 26)) := (Mod.refl _ w3).alloc _
  have x1 := (hM3.trans hm3a).cell HB1.out id
  have x2 := (show (w3.alloc (.cells #[.slice a3 rs.length c3] 26)).cell? ⟨w3.heap.size, 0, none⟩ = some (.slice a3 rs.length c3) from cell_new rfl)
  have HM3 := Lib.hid ((HM2a.out.trans hM3).trans hm3a)
  have HQ1 := Lib.hid (law8Prog_true rs _ _ _ (HS1.out.mod0 ((HM2a.out.trans hM3).trans hm3a)) (HS2.out.mod0 hm3a) HZ1.out.1 HZ1.out.2)
  clear hM3 hm3a HS1 HS2 HB1
  go_wp2_with (first
    | (go_at_call 14; refine (HN.out _ _).mono ?_; rintro e w' ⟨rfl, rfl⟩))
  refine HQ1.out.mono ?_
  rintro e w4 ⟨rfl, hM4⟩
  have HM4 := Lib.hid ((HM2.out.trans HM3.out).trans hM4)
  clear hM4 HQ1 x1 x2 HM2 HM2a HM3
  go_wp2_with fail
  refine (law8Kept_true g c1 a c l w4 (HO1.out.mod HM4.out (fun _ _ => id)) (HR.out.mod (HM1.out.trans HM4.out) (fun _ _ => id)) (by omega)).mono ?_
  rintro e w5 ⟨rfl, hM5⟩
  have HM5 := Lib.hid (HM4.out.trans hM5)
  clear hM5 HM4
  go_wp2_with fail
  refine (HP2.out _ c1 w5 (HR1.out _ HM5.out) (tabs_mod HT.out (HM1.out.trans HM5.out))).mono ?_
  rintro e w6 ⟨s1, b1, rfl, hs1, hl1, hM6⟩
  have HS1 := Lib.hid hs1; have HL1 := Lib.hid hl1
  obtain ⟨a2, c2, rfl, _⟩ := hs1
  obtain ⟨a3, c3, _, rfl, _⟩ := hl1
  have HM6 := Lib.hid hM6
  obtain ⟨⟨pr, hts⟩, ls⟩ := r
  try simp only at HS1
  try simp only at HL1
  try simp only at HZ2
  have hm6a : Mod (fun _ => False) w6 (w6.alloc (.cells #[.string pr, .slice a2 hts.length c2, .slice a3 ls.length c3] 40)) := (Mod.refl _ w6).alloc _
  have HM6a := Lib.hid hm6a
  have HB1 := Lib.hid (heap_alloc_new w6 (.cells #[.string pr, .slice a2 hts.length c2, .slice a3 ls.length c3] 40))
  clear hM6 hm6a
  unfold rmV
  go_wp2_with fail
  refine (HF2.out a c _ (HR.out.mod (((HM1.out.trans HM5.out).trans HM6.out).trans HM6a.out) (fun _ _ => id))).mono ?_
  rintro e w7 ⟨s2, b2, rfl, hs2, hl2, hM7⟩
  have HS2 := Lib.hid hs2; have HL2 := Lib.hid hl2
  obtain ⟨a4, c4, rfl, _⟩ := hs2
  obtain ⟨a5, c5, _, rfl, _⟩ := hl2
  try simp only at HS2
  try simp only at HL2
  have hm7a : Mod (fun _ => False) w7 (w7.alloc (.cells #[.string pr, .slice a4 hts.length c4, .slice a5 ls.length c5] 40)) := (Mod.refl _ w7).alloc _
  have hb1 := (hM7.trans hm7a).at HB1.out id
  have x0 := cell_at (j := 0) hb1 rfl
  have x1 := cell_at (j := 1) hb1 rfl
  have x2 := cell_at (j := 2) hb1 rfl
  have HM7 := Lib.hid ((HM6a.out.trans hM7).trans hm7a)
  have HQ2 := Lib.hid (law8Rule_true ⟨⟨pr, hts⟩, ls⟩ _ _ _ _ _ (HS1.out.mod0 ((HM6a.out.trans hM7).trans hm7a)) (HS2.out.mod0 hm7a) (HL1.out.mod0 ((HM6a.out.trans hM7).trans hm7a)) (HL2.out.mod0 hm7a) HZ2.out)
  unfold rmV at HQ2
  clear hM7 hm7a HS1 HS2 HL1 HL2 HB1 hb1
  unfold rmV
  go_wp2_with (first
    | (go_at_call 14; refine (HN.out _ _).mono ?_; rintro e w' ⟨rfl, rfl⟩))
  refine HQ2.out.mono ?_
  rintro e w8 ⟨rfl, hM8⟩
  have HM8 := Lib.hid (((HM5.out.trans HM6.out).trans HM7.out).trans hM8)
  clear hM8 HQ2 x0 x1 x2 HM6 HM6a HM7
  go_wp2_with fail
  refine (law8Kept_true g c1 a c l w8 (HO1.out.mod HM8.out (fun _ _ => id)) (HR.out.mod (HM1.out.trans HM8.out) (fun _ _ => id)) (by omega)).mono ?_
  rintro e w9 ⟨rfl, hM9⟩
  have HM9 := Lib.hid (HM8.out.trans hM9)
  clear hM9 HM8 HM5
  go_wp2_with fail
  refine (HP3.out _ c1 w9 (HR1.out _ HM9.out) (tabs_mod HT.out (HM1.out.trans HM9.out))).mono ?_
  rintro e w10 ⟨s1, rfl, hs1, hM10⟩
  have HS1 := Lib.hid hs1
  obtain ⟨a2, c2, rfl, _⟩ := hs1
  have HM10 := Lib.hid hM10
  obtain ⟨pr, hts⟩ := x
  try simp only at HS1
  try simp only at HZ3
  have hm10a : Mod (fun _ => False) w10 (w10.alloc (.cells #[.string pr, .slice a2 hts.length c2] 37)) := (Mod.refl _ w10).alloc _
  have HM10a := Lib.hid hm10a
  have HB1 := Lib.hid (heap_alloc_new w10 (.cells #[.string pr, .slice a2 hts.length c2] 37))
  clear hM10 hm10a
  go_wp2_with fail
  refine (HF3.out a c _ (HR.out.mod (((HM1.out.trans HM9.out).trans HM10.out).trans HM10a.out) (fun _ _ => id))).mono ?_
  rintro e w11 ⟨s2, rfl, hs2, hM11⟩
  have HS2 := Lib.hid hs2
  obtain ⟨a4, c4, rfl, _⟩ := hs2
  try simp only at HS2
  have hm11a : Mod (fun _ => False) w11 (w11.alloc (.cells #[.string pr, .slice a4 hts.length c4] 37)) := (Mod.refl _ w11).alloc _
  have hb1 := (hM11.trans hm11a).at HB1.out id
  have x0 := cell_at (j := 0) hb1 rfl
  have x1 := cell_at (j := 1) hb1 rfl
  have HM11 := Lib.hid ((HM10a.out.trans hM11).trans hm11a)
  have HQ3 := Lib.hid (law8Atom_true pr hts _ _ _ (HS1.out.mod0 ((HM10a.out.trans hM11).trans hm11a)) (HS2.out.mod0 hm11a) HZ3.out)
  clear hM11 hm11a HS1 HS2 HB1 hb1
  go_wp2_with (first
    | (go_at_call 14; refine (HN.out _ _).mono ?_; rintro e w' ⟨rfl, rfl⟩))
  refine HQ3.out.mono ?_
  rintro e w12 ⟨rfl, hM12⟩
  have HM12 := Lib.hid (((HM9.out.trans HM10.out).trans HM11.out).trans hM12)
  clear hM12 HQ3 x0 x1 HM10 HM10a HM11
  go_wp2_with fail
  refine (law8Kept_true g c1 a c l w12 (HO1.out.mod HM12.out (fun _ _ => id)) (HR.out.mod (HM1.out.trans HM12.out) (fun _ _ => id)) (by omega)).mono ?_
  rintro e w13 ⟨rfl, hM13⟩
  have HM13 := Lib.hid ((HM1.out.trans HM12.out).trans hM13)
  clear hM13
  go_wp2_with fail
  go_ret
  exact ⟨rfl, HM13.out⟩
end Go.Proofs.YtgplagdehfhffaaDoor
