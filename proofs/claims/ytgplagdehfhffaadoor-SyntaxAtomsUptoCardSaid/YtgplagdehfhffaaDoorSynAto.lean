/- SyntaxAtoms answers true of any bytes of bulk at most 1048576, where the tables of utf8 lie. -/
import Derived.Test.YtgplagdehfhffaaDoorAwake
import Derived.Test.YtgplagdehfhffaaDoorAtomsL
namespace Go.Proofs.YtgplagdehfhffaaDoor
open Go Go.RowKit Go.Mine
set_option maxHeartbeats 4000000
set_option maxRecDepth 1000000
set_option linter.unusedVariables false

theorem atomS_at {s : ByteArray} : atOf (atomS s) ≤ s.size := by
  rcases h : atomS s with x | r
  · exact (read_err2 h (fun e h => atom_at h)).2
  · exact Nat.zero_le _
theorem ruleS_at {s : ByteArray} : atOf (ruleS s) ≤ s.size := by
  rcases h : ruleS s with x | r
  · exact (read_err2 h (fun e h => rule_at h)).2
  · exact Nat.zero_le _
theorem AmS.small {a : Am} (h : AmS a) : SmallAm a := ⟨by have := h.1; omega, by have := h.2.1; omega, fun t ht => by have := h.2.2 t ht; unfold TmS at this; omega⟩
theorem RmS.small {r : Rm} (h : RmS r) : SmallRm r :=
  ⟨h.1.small, by have := h.2.1; omega, fun l hl => by
    have h3 := h.2.2 l hl
    exact ⟨h3.1.small, by have := h3.2.1; unfold TmS at this; omega, by have := h3.2.2; unfold TmS at this; omega⟩⟩

theorem synAtoms_walk (a : Option Addr) (c : Nat) (l : List UInt8) (w : World) (hr : Rd w a (bts l)) (hT : Lib.Utf8Tabs 1 2 w) (hn : l.length ≤ 1048576) :
    Calls Tryd.prog 7 #[.slice a l.length c] w fun e w' => e = .returned (.bool true) ∧ Mod (fun _ => False) w w' := by
  have HR := Lib.hid hr; clear hr
  have HT := Lib.hid hT; clear hT
  have HN := Lib.hid law8Num_any
  have HP1 := Lib.hid (parse_says l l.length rfl (by omega))
  have HP2 := Lib.hid (parseRule_says l l.length rfl (by omega))
  have HP3 := Lib.hid (parseAtom_says l l.length rfl (by omega))
  have HP4 := Lib.hid (parseRule_says (l ++ [10, 46]) (l.length + 2) (by simp) (by omega))
  have ha1 := atomS_at (s := ⟨l.toArray⟩)
  have ha2 := ruleS_at (s := ⟨l.toArray⟩)
  have hsz : (⟨l.toArray⟩ : ByteArray).size = l.length := rfl
  rw [hsz] at ha1 ha2
  have HZ1 := Lib.hid (atomV_small ⟨l.toArray⟩)
  have HZ2 := Lib.hid (ruleV_small ⟨l.toArray⟩)
  have HF : Hid ((noOf (atomS ⟨l.toArray⟩) = 0 ∧ noOf (ruleS ⟨l.toArray⟩) ≠ 0 ∧ valOf rm0 (ruleS ⟨l.toArray⟩) = rm0 ∧ mayAm false (valOf am0 (atomS ⟨l.toArray⟩)) = 0 ∧ (l.length + 2 ≤ 65536 → noOf (ruleS ⟨(l ++ [10, 46]).toArray⟩) = 0 ∧ valOf rm0 (ruleS ⟨(l ++ [10, 46]).toArray⟩) = ⟨valOf am0 (atomS ⟨l.toArray⟩), []⟩)) ∨
      (noOf (atomS ⟨l.toArray⟩) ≠ 0 ∧ noOf (ruleS ⟨l.toArray⟩) = 0 ∧ noOf (progS ⟨l.toArray⟩) = 0 ∧ valOf [] (progS ⟨l.toArray⟩) = [valOf rm0 (ruleS ⟨l.toArray⟩)] ∧ mayRm (valOf rm0 (ruleS ⟨l.toArray⟩)) = 0) ∨
      (noOf (atomS ⟨l.toArray⟩) ≠ 0 ∧ noOf (ruleS ⟨l.toArray⟩) ≠ 0 ∧ valOf rm0 (ruleS ⟨l.toArray⟩) = rm0)) := by
    rcases hA : atomS ⟨l.toArray⟩ with x | av
    · rcases hB : ruleS ⟨l.toArray⟩ with y | rv
      · exact .inr (.inr ⟨(read_err2 hA (fun e h => atom_at h)).1, (read_err2 hB (fun e h => rule_at h)).1, rfl⟩)
      · have hp : progS ⟨l.toArray⟩ = .ok [rv] := prog_of_rule hB
        rw [hp]
        exact .inr (.inl ⟨(read_err2 hA (fun e h => atom_at h)).1, rfl, rfl, rfl, rule_may hB⟩)
    · rcases hB : ruleS ⟨l.toArray⟩ with y | rv
      · refine .inl ⟨rfl, (read_err2 hB (fun e h => rule_at h)).1, rfl, atom_may hA, fun hl => ?_⟩
        have := rule_of_atom (t := ⟨(l ++ [10, 46]).toArray⟩) (by simp) hA (by show (l ++ [10, 46]).toArray.size ≤ 65536; simpa using hl)
        have h2 : ruleS ⟨(l ++ [10, 46]).toArray⟩ = .ok ⟨av, []⟩ := this
        rw [h2]
        exact ⟨rfl, rfl⟩
      · exact (atom_not_rule hA hB).elim
  unfold PSay at HP1
  unfold RSay at HP2 HP4
  unfold ASay at HP3
  generalize valOf am0 (atomS ⟨l.toArray⟩) = x at *
  generalize atOf (atomS ⟨l.toArray⟩) = at1 at *
  generalize noOf (atomS ⟨l.toArray⟩) = no1 at *
  generalize valOf rm0 (ruleS ⟨l.toArray⟩) = r at *
  generalize atOf (ruleS ⟨l.toArray⟩) = at2 at *
  generalize noOf (ruleS ⟨l.toArray⟩) = no2 at *
  generalize valOf [] (progS ⟨l.toArray⟩) = ps at *
  generalize atOf (progS ⟨l.toArray⟩) = at3 at *
  generalize noOf (progS ⟨l.toArray⟩) = no3 at *
  generalize valOf rm0 (ruleS ⟨(l ++ [10, 46]).toArray⟩) = q at *
  generalize atOf (ruleS ⟨(l ++ [10, 46]).toArray⟩) = at4 at *
  generalize noOf (ruleS ⟨(l ++ [10, 46]).toArray⟩) = no4 at *
  obtain ⟨pr, ts⟩ := x
  obtain ⟨⟨rp, hts⟩, ls⟩ := r
  try simp only at HP3
  try simp only at HP2
  go_enter Tryd.func7, Tryd.ntmps7
  go_wp2_with fail
  refine (awake_true w HT.out).mono ?_
  rintro e w1 ⟨rfl, hM1⟩
  have HM1 := Lib.hid hM1; clear hM1
  go_wp2_with fail
  refine (HP3.out a c w1 (HR.out.mod HM1.out (fun _ _ => id)) (tabs_mod HT.out HM1.out)).mono ?_
  rintro e w2 ⟨s1, rfl, hs1, hM2⟩
  have HS1 := Lib.hid hs1
  obtain ⟨a2, c2, rfl, _⟩ := hs1
  have hm2a : Mod (fun _ => False) w2 (w2.alloc (.cells #[.string pr, .slice a2 ts.length c2] 37)) := (Mod.refl _ w2).alloc _
  have HM2 := Lib.hid (HM1.out.trans hM2)
  have HM2a := Lib.hid hm2a
  have HB1 := Lib.hid (heap_alloc_new w2 (.cells #[.string pr, .slice a2 ts.length c2] 37))
  clear hM2 hm2a HM1
  go_wp2_with fail
  refine (HP2.out a c _ (HR.out.mod (HM2.out.trans HM2a.out) (fun _ _ => id)) (tabs_mod HT.out (HM2.out.trans HM2a.out))).mono ?_
  rintro e w3 ⟨s2, b2, rfl, hs2, hl2, hM3⟩
  have HS2 := Lib.hid hs2; have HL2 := Lib.hid hl2
  obtain ⟨a3, c3, rfl, _⟩ := hs2
  obtain ⟨a4, c4, _, rfl, _⟩ := hl2
  unfold rmV
  have hm3a : Mod (fun _ => False) w3 (w3.alloc (.cells #[.string rp, .slice a3 hts.length c3, .slice a4 ls.length c4] 40)) := (Mod.refl _ w3).alloc _
  have HB3 := Lib.hid (heap_alloc_new w3 (.cells #[.string rp, .slice a3 hts.length c3, .slice a4 ls.length c4] 40))
  have HB2 := Lib.hid ((hM3.trans hm3a).at HB1.out id)
  have HM3 := Lib.hid ((HM2a.out.trans hM3).trans hm3a)
  have HM4 := Lib.hid (HM2.out.trans HM3.out)
  have HSS1 := Lib.hid (HS1.out.mod0 HM3.out)
  have HSS2 := Lib.hid (HS2.out.mod0 hm3a)
  have HLL2 := Lib.hid (HL2.out.mod0 hm3a)
  clear hM3 hm3a HS1 HS2 HL2 HB1
  clear HM3 HM2a HM2
  simp only
  have HNN := Lib.hid hn
  clear hn
  rcases HF.out with ⟨rfl, hn2, hr0, hmay, himp⟩ | ⟨hn1, rfl, rfl, hps, hmay⟩ | ⟨hn1, hn2, hr0⟩
  · have hb2 : ((no2 : Int) == 0) = false := by simp; omega
    unfold rm0 at hr0
    cases hr0
    simp only [List.length_nil, emptyB] at HB3 ⊢
    by_cases hlen : l.length < 65500
    · obtain ⟨rfl, hq⟩ := himp (by omega)
      subst hq
      simp only at HP4
      have hlb : decide ((l.length : Int) < 65500) = true := by simp; omega
      clear hlen himp
      go_wp2_with (first
        | (go_at_call 14; refine (HN.out _ _).mono ?_; rintro e w' ⟨rfl, rfl⟩)
        | (at_builtin; refine wpL_append0 rfl (.tmp 68) (.tmp 69) 22 22 rfl ti24 rfl rfl (Src.ofRd ti24.ht l.length c (HR.out.mod HM4.out (fun _ _ => id)) (by simp) (bts_one l)) (by have := HNN.out; omega) (by have := HNN.out; unfold maxLen; omega) ?_; intro a5 c5 w5 hO5 hM5 hf5 _
           have HO5 := Lib.hid hO5; have HM5 := Lib.hid hM5; have HF5 := Lib.hid hf5; clear hO5 hM5 hf5)
        | (at_builtin; refine wpL_appendN (us := [_, _]) rfl (.tmp 71) (.tmp 72) 22 rfl ti24 rfl HO5.out rfl rfl rfl (by have := HNN.out; omega) (by have := HNN.out; unfold maxLen; omega) ?_; intro a6 c6 w6 hO6 hG6 _
           have HO6 := Lib.hid hO6; have HM6 := Lib.hid (HM5.out.step hG6.mod (fun i hi hs => by have := HF5.out i hs; omega)); clear hO6 hG6))
      have hrd : Rd w6 a6 (bts (l ++ [10, 46])) := by
        have := HO6.out.rd
        rw [bts_append]; exact this
      have HM46 := Lib.hid (HM4.out.trans HM6.out)
      refine (HP4.out a6 c6 _ hrd (tabs_mod HT.out HM46.out)).mono ?_
      rintro e w7 ⟨s7, b7, rfl, hs7, hl7, hM7⟩
      have HS7 := Lib.hid hs7
      obtain ⟨a7, c7, rfl, _⟩ := hs7
      obtain ⟨a8, c8, _, rfl, _⟩ := hl7
      unfold rmV
      simp only [List.length_nil] at HS7 ⊢
      have hm7a : Mod (fun _ => False) w7 (w7.alloc (.cells #[.string pr, .slice a7 ts.length c7, .slice a8 0 c8] 40)) := (Mod.refl _ w7).alloc _
      have HB7 := heap_alloc_new w7 (.cells #[.string pr, .slice a7 ts.length c7, .slice a8 0 c8] 40)
      have q0 := cell_at (j := 0) HB7 rfl
      have q1 := cell_at (j := 1) HB7 rfl
      have q2 := cell_at (j := 2) HB7 rfl
      have hb1 := ((HM6.out.trans hM7).trans hm7a).at HB2.out id
      have HB1 := Lib.hid hb1
      have p0 := cell_at (j := 0) hb1 rfl
      have p1 := cell_at (j := 1) hb1 rfl
      have HB3' := Lib.hid (((HM6.out.trans hM7).trans hm7a).at HB3.out id)
      have hta := HSS1.out.mod0 ((HM6.out.trans hM7).trans hm7a)
      have HTA := Lib.hid hta
      have HQ := Lib.hid (law8Atom_true pr ts _ _ _ (HS7.out.mod0 hm7a) hta (by have := HZ1.out.2.1; simp only at this; omega))
      have HM7 := Lib.hid (HM46.out.trans (hM7.trans hm7a))
      clear hM7 hm7a HB7 hb1 hrd hta
      go_wp2_with (first
        | (go_at_call 14; refine (HN.out _ _).mono ?_; rintro e w' ⟨rfl, rfl⟩))
      refine HQ.out.mono ?_
      rintro e w8 ⟨rfl, hM8⟩
      have hb1 := hM8.at HB1.out id
      have p0' := cell_at (j := 0) hb1 rfl
      have p1' := cell_at (j := 1) hb1 rfl
      have HMA := Lib.hid (MayAtom_any ⟨pr, ts⟩ _ w8 HZ1.out.small (HTA.out.mod0 hM8))
      simp only at HMA
      rw [hmay] at HMA
      have HM8 := Lib.hid (HM7.out.trans hM8)
      have HB3'' := Lib.hid (hM8.at HB3'.out id)
      clear hM8 hb1 p0 p1 q0 q1 q2 HQ
      go_wp2_with fail
      refine HMA.out.mono ?_
      rintro e w9 ⟨rfl, hM9⟩
      have HM9 := Lib.hid (HM8.out.trans hM9)
      have hb3 := hM9.at HB3''.out id
      have k2 := cell_at (j := 2) hb3 rfl
      have k0 := cell_at (j := 0) hb3 rfl
      clear hb3 hM9 p0' p1'
      go_wp2_with (first
        | (go_at_call 14; refine (HN.out _ _).mono ?_; rintro e w' ⟨rfl, rfl⟩))
      go_ret
      exact ⟨rfl, HM9.out⟩
    · have hlb : decide ((l.length : Int) < 65500) = false := by simp; omega
      clear hlen himp
      have hb3 := (Mod.refl (fun _ => False) _).at HB3.out id
      have k2 := cell_at (j := 2) hb3 rfl
      have k0 := cell_at (j := 0) hb3 rfl
      clear hb3
      go_wp2_with (first
        | (go_at_call 14; refine (HN.out _ _).mono ?_; rintro e w' ⟨rfl, rfl⟩))
      go_ret
      exact ⟨rfl, HM4.out⟩
  · have hb1 : ((no1 : Int) == 0) = false := by simp; omega
    subst hps
    try simp only [List.length_cons, List.length_nil, Nat.zero_add] at HP1
    have hzr := HZ2.out
    go_wp2_with (first
      | (go_at_call 14; refine (HN.out _ _).mono ?_; rintro e w' ⟨rfl, rfl⟩))
    refine (HP1.out a c _ (HR.out.mod HM4.out (fun _ _ => id)) (tabs_mod HT.out HM4.out)).mono ?_
    rintro e w5 ⟨s5, rfl, hs5, hM5⟩
    have HS5 := Lib.hid hs5
    obtain ⟨a5, c5, _, rfl, _⟩ := hs5
    simp only [List.length_cons, List.length_nil, Nat.zero_add] at HS5 ⊢
    have hm5a : Mod (fun _ => False) w5 (w5.alloc (.cells #[.slice a5 1 c5] 26)) := (Mod.refl _ w5).alloc _
    have HB5 := Lib.hid (heap_alloc_new w5 (.cells #[.slice a5 1 c5] 26))
    have hb3 := (hM5.trans hm5a).at HB3.out id
    have k0 := cell_at (j := 0) hb3 rfl
    have k1 := cell_at (j := 1) hb3 rfl
    have k2 := cell_at (j := 2) hb3 rfl
    have HB3' := Lib.hid hb3
    have HMR := Lib.hid (MayRule_any ⟨⟨rp, hts⟩, ls⟩ _ _ _ HZ2.out.small (HSS2.out.mod0 (hM5.trans hm5a)) (HLL2.out.mod0 (hM5.trans hm5a)))
    have HM5 := Lib.hid (HM4.out.trans (hM5.trans hm5a))
    have HSp := Lib.hid (HS5.out.mod0 hm5a)
    have HTr := Lib.hid (HSS2.out.mod0 (hM5.trans hm5a))
    have HLr := Lib.hid (HLL2.out.mod0 (hM5.trans hm5a))
    unfold rmV at HMR
    simp only at HMR HTr HLr
    rw [hmay] at HMR
    clear hM5 hm5a hb3
    go_wp2_with fail
    refine HMR.out.mono ?_
    rintro e w6 ⟨rfl, hM6⟩
    have hb3 := hM6.at HB3'.out id
    have j0 := cell_at (j := 0) hb3 rfl
    have j1 := cell_at (j := 1) hb3 rfl
    have j2 := cell_at (j := 2) hb3 rfl
    have j5 := cell_at (j := 0) (hM6.at HB5.out id) rfl
    have hmD : Mod (fun _ => False) w6 (w6.alloc (.cells #[.string rp, .slice a3 hts.length c3, .slice a4 ls.length c4] 40)) := (Mod.refl _ w6).alloc _
    have HQ := Lib.hid (law8Prog_true [⟨⟨rp, hts⟩, ls⟩] (.slice a5 1 c5) (.slice (some ⟨w6.heap.size, 0, none⟩) 1 1) (w6.alloc (.cells #[.string rp, .slice a3 hts.length c3, .slice a4 ls.length c4] 40)) (HSp.out.mod0 (hM6.trans hmD))
      ⟨_, _, [(⟨⟨rp, hts⟩, ls⟩, .slice a3 hts.length c3, .slice a4 ls.length c4)], rfl, rfl, Rd.news w6 _ _, by
        intro x hx
        simp only [List.mem_cons, List.not_mem_nil, or_false] at hx
        subst hx
        exact ⟨HTr.out.mod0 (hM6.trans hmD), HLr.out.mod0 (hM6.trans hmD)⟩⟩ (by simp) (fun r hr => by
          simp only [List.mem_cons, List.not_mem_nil, or_false] at hr
          subst hr
          exact HZ2.out.smR))
    have HM6 := Lib.hid (HM5.out.trans (hM6.trans hmD))
    clear hM6 hmD hb3 k0 k1 k2
    go_wp2_with (first
      | (go_at_call 14; refine (HN.out _ _).mono ?_; rintro e w' ⟨rfl, rfl⟩))
    refine HQ.out.mono ?_
    rintro e w7 ⟨rfl, hM7⟩
    have HM7 := Lib.hid (HM6.out.trans hM7)
    clear hM7 HQ
    go_wp2_with fail
    go_ret
    exact ⟨rfl, HM7.out⟩
  · have hb1 : ((no1 : Int) == 0) = false := by simp; omega
    have hb2 : ((no2 : Int) == 0) = false := by simp; omega
    unfold rm0 at hr0
    cases hr0
    simp only [List.length_nil, emptyB] at HB3 ⊢
    have hb3 := (Mod.refl (fun _ => False) _).at HB3.out id
    have k2 := cell_at (j := 2) hb3 rfl
    have k0 := cell_at (j := 0) hb3 rfl
    clear hb3
    go_wp2_with (first
      | (go_at_call 14; refine (HN.out _ _).mono ?_; rintro e w' ⟨rfl, rfl⟩))
    go_ret
    exact ⟨rfl, HM4.out⟩
end Go.Proofs.YtgplagdehfhffaaDoor
