/- SyntaxReads answers true of any bytes of bulk at most 1048576, where the tables of utf8 lie. -/
import Derived.Test.YtgplagdehfhffaaDoorReads1
import Derived.Test.YtgplagdehfhffaaDoorOrdA
namespace Go.Proofs.YtgplagdehfhffaaDoor
open Go Go.RowKit Go.Mine
set_option maxHeartbeats 4000000
set_option maxRecDepth 1000000
set_option linter.unusedVariables false

theorem reads_law (l l2 : List UInt8) (rs : List Rm) (h : progS ⟨l.toArray⟩ = .ok rs) :
    (65536 < l.length + 1 + l2.length → noOf (progS ⟨(l ++ 10 :: l2).toArray⟩) ≠ 0) ∧
    (noOf (progS ⟨l2.toArray⟩) = 0 → 1024 < rs.length + (valOf [] (progS ⟨l2.toArray⟩)).length → noOf (progS ⟨(l ++ 10 :: l2).toArray⟩) ≠ 0) ∧
    (l.length + 1 + l2.length ≤ 65536 → ¬ (noOf (progS ⟨l2.toArray⟩) = 0 ∧ 1024 < rs.length + (valOf [] (progS ⟨l2.toArray⟩)).length) →
      (noOf (progS ⟨(l ++ 10 :: l2).toArray⟩) = 0 ↔ noOf (progS ⟨l2.toArray⟩) = 0) ∧ (noOf (progS ⟨(l ++ 10 :: l2).toArray⟩) = 0 → valOf [] (progS ⟨(l ++ 10 :: l2).toArray⟩) = rs ++ valOf [] (progS ⟨l2.toArray⟩))) := by
  have hne : ∀ {s : ByteArray} {e : Nat × Nat}, progS s = .error e → noOf (progS s) ≠ 0 := fun {s e} he => by
    rw [he]; exact (read_err2 he (fun e h => prog_at h)).1
  have hz : (⟨(l ++ 10 :: l2).toArray⟩ : ByteArray).size = l.length + 1 + l2.length := by
    show (l ++ 10 :: l2).toArray.size = _
    rw [List.size_toArray, List.length_append, List.length_cons]; omega
  have big : 65536 < l.length + 1 + l2.length → noOf (progS ⟨(l ++ 10 :: l2).toArray⟩) ≠ 0 := fun hb => by
    unfold progS readL
    rw [hz, if_pos hb]
    decide
  have side := fun hb => side_reads (s := ⟨l.toArray⟩) (o := ⟨l2.toArray⟩) (t := ⟨(l ++ 10 :: l2).toArray⟩) (by simp) h hb
  rw [hz] at side
  refine ⟨big, fun hq hs => ?_, fun hb hn => ?_⟩
  · by_cases hb : 65536 < l.length + 1 + l2.length
    · exact big hb
    · rcases hQ : progS ⟨l2.toArray⟩ with e | qs
      · exact absurd hq (hne hQ)
      · rw [hQ] at hs
        obtain ⟨e', he'⟩ := ((side (by omega)).2 qs hQ).2 hs
        exact hne he'
  · rcases hQ : progS ⟨l2.toArray⟩ with e | qs
    · obtain ⟨e', he'⟩ := (side hb).1 e hQ
      have h1 := hne (s := ⟨(l ++ 10 :: l2).toArray⟩) he'
      have h2 := hne hQ
      rw [hQ] at h2
      exact ⟨⟨fun h => absurd h h1, fun h => absurd h h2⟩, fun h => absurd h h1⟩
    · rw [hQ] at hn
      have := ((side hb).2 qs hQ).1 (by
        by_cases hc : 1024 < rs.length + qs.length
        · exact absurd ⟨rfl, hc⟩ hn
        · omega)
      have h3 : progS ⟨(l ++ 10 :: l2).toArray⟩ = .ok (rs ++ qs) := this
      rw [h3]
      exact ⟨⟨fun _ => rfl, fun _ => rfl⟩, fun _ => rfl⟩
theorem progS_at {s : ByteArray} : atOf (progS s) ≤ s.size := by
  rcases h : progS s with x | r
  · exact (read_err2 h (fun e h => prog_at h)).2
  · exact Nat.zero_le _
theorem RsAt.one {w : World} {xs : List (Rm × Value × Value)} (h : ∀ x ∈ xs, TsAt w x.2.1 x.1.head.terms ∧ LsAt w x.2.2 x.1.body) : ∀ u ∈ rmsC xs, u.oneCell' = true := by
  intro u hu
  simp only [rmsC, List.mem_flatMap, rmC] at hu
  obtain ⟨x, hx, hu⟩ := hu
  obtain ⟨⟨a1, c1, h1, _⟩, ⟨a2, c2, _, h2, _⟩⟩ := h x hx
  rw [h1, h2] at hu
  simp at hu
  rcases hu with rfl | rfl | rfl <;> rfl
theorem progSm {rs : List Rm} (h : rs.length ≤ 1024 ∧ ∀ r ∈ rs, RmS r) : SmallPm rs := by
  refine ⟨by have := h.1; omega, fun r hr => ?_⟩
  have h2 := h.2 r hr
  exact ⟨⟨by have := h2.1.1; omega, by have := h2.1.2.1; omega, fun t ht => by have := h2.1.2.2 t ht; unfold TmS at this; omega⟩, by have := h2.2.1; omega, fun l hl => by
    have h3 := h2.2.2 l hl
    exact ⟨⟨by have := h3.1.1; omega, by have := h3.1.2.1; omega, fun t ht => by have := h3.1.2.2 t ht; unfold TmS at this; omega⟩, by have := h3.2.1; unfold TmS at this; omega, by have := h3.2.2; unfold TmS at this; omega⟩⟩
theorem grow_mod0' {w w1 w2 : World} {g : Nat} {a : Option Addr} (h : Mod (fun _ => False) w w1) (hg : Grow w1 (some ⟨g, 0, none⟩) w2 a) (hge : w.heap.size ≤ g) : Mod (fun _ => False) w w2 := h.step hg.mod (fun i hi hs => by simp at hs; omega)
theorem synReads_walk (a : Option Addr) (c : Nat) (l : List UInt8) (a2 : Option Addr) (c2 : Nat) (l2 : List UInt8) (w : World) (hr : Rd w a (bts l)) (hr2 : Rd w a2 (bts l2)) (hT : Lib.Utf8Tabs 1 2 w) (hn : l.length + l2.length ≤ 1048576) :
    Calls Tryd.prog 10 #[.slice a l.length c, .slice a2 l2.length c2] w fun e w' => e = .returned (.bool true) ∧ Mod (fun _ => False) w w' := by
  rcases hP : progS ⟨l.toArray⟩ with x | rs
  · skip
    have HR := Lib.hid hr; have HR2 := Lib.hid hr2
    have HT := Lib.hid hT
    have HN := Lib.hid law8Num_any
    have HP1 := Lib.hid (parse_says l l.length rfl (by omega))
    unfold PSay at HP1
    rw [hP] at HP1
    obtain ⟨k1, k2⟩ := x
    have hz := (read_err2 hP (fun e h => prog_at h))
    have hz1 : (⟨l.toArray⟩ : ByteArray).size = l.length := rfl
    rw [hz1] at hz
    obtain ⟨hk1, hk2⟩ := hz
    simp only at hk1 hk2
    simp only [noOf, atOf, valOf] at HP1
    have hq1 : ((k1 : Int) != 0) = true := by simp; omega
    clear hr hr2 hT hP hz1 hk1
    go_enter Tryd.func10, Tryd.ntmps10
    go_wp2_with fail
    refine (awake_true w HT.out).mono ?_
    rintro e w1 ⟨rfl, hM1⟩
    have HM1 := Lib.hid hM1; clear hM1
    go_wp2_with fail
    refine (HP1.out a c w1 (HR.out.mod HM1.out (fun _ _ => id)) (tabs_mod HT.out HM1.out)).mono ?_
    rintro e w2 ⟨s1, rfl, hs1, hM2⟩
    obtain ⟨a3, c3, _, rfl, _⟩ := hs1
    simp only [List.length_nil]
    have HM2 := Lib.hid ((HM1.out.trans hM2).alloc (.cells #[.slice a3 0 c3] 26))
    clear hM2 HP1
    go_wp2_with (first
      | (go_at_call 14; refine (HN.out _ _).mono ?_; rintro e w' ⟨rfl, rfl⟩))
    go_ret
    exact ⟨rfl, HM2.out⟩
  · skip
    have HR := Lib.hid hr; have HR2 := Lib.hid hr2
    have HT := Lib.hid hT
    have HN := Lib.hid law8Num_any
    have HP1 := Lib.hid (parse_says l l.length rfl (by omega))
    unfold PSay at HP1
    rw [hP] at HP1
    simp only [noOf, atOf, valOf] at HP1
    have HP2 := Lib.hid (parse_says l2 l2.length rfl (by omega))
    have HP3 := Lib.hid (parse_says (l ++ 10 :: l2) (l.length + 1 + l2.length) (by rw [List.length_append, List.length_cons]; omega) (by omega))
    unfold PSay at HP2 HP3
    have HF := Lib.hid (reads_law l l2 rs hP)
    have HSM := Lib.hid (prog_small hP)
    have HMY := Lib.hid (prog_may hP)
    have HSQ := Lib.hid (progV_small ⟨l2.toArray⟩)
    have HST := Lib.hid (progV_small ⟨(l ++ 10 :: l2).toArray⟩)
    have HPP := Lib.hid hP
    generalize valOf [] (progS ⟨l2.toArray⟩) = qs at *
    generalize noOf (progS ⟨l2.toArray⟩) = nq at *
    generalize atOf (progS ⟨l2.toArray⟩) = atq at *
    generalize valOf [] (progS ⟨(l ++ 10 :: l2).toArray⟩) = tv at *
    generalize noOf (progS ⟨(l ++ 10 :: l2).toArray⟩) = nt at *
    generalize atOf (progS ⟨(l ++ 10 :: l2).toArray⟩) = att at *
    have HNN : Hid (l.length + l2.length ≤ 1048576) := hn
    clear hr hr2 hT hP hn
    go_enter Tryd.func10, Tryd.ntmps10
    go_wp2_with fail
    refine (awake_true w HT.out).mono ?_
    rintro e w1 ⟨rfl, hM1⟩
    have HM1 := Lib.hid hM1; clear hM1
    go_wp2_with fail
    refine (HP1.out a c w1 (HR.out.mod HM1.out (fun _ _ => id)) (tabs_mod HT.out HM1.out)).mono ?_
    rintro e w2 ⟨s1, rfl, hs1, hM2⟩
    obtain ⟨a3, c3, _, rfl, _⟩ := id hs1
    obtain ⟨u2, hu⟩ : ∃ u, u = w2.alloc (.cells #[.slice a3 rs.length c3] 26) := ⟨_, rfl⟩
    have hm2 : Mod (fun _ => False) w2 u2 := by rw [hu]; exact (Mod.refl _ w2).alloc _
    have HM2 : Hid (Mod (fun _ => False) w u2) := Lib.hid ((HM1.out.trans hM2).trans hm2)
    have HB2 : Hid (u2.heap[w2.heap.size]? = some (.cells #[.slice a3 rs.length c3] 26 (0, 0))) := by rw [hu]; exact heap_alloc_new w2 _
    have HS2 : Hid (RsAt u2 (.slice a3 rs.length c3) rs) := Lib.hid (hs1.mod0 hm2)
    have HU := Lib.hid hu
    clear hM2 hm2 hs1 hu HP1 HM1
    have x5 := cell_at (j := 0) HB2.out rfl
    rw [HU.out] at x5
    go_wp2_with (first
      | (go_at_call 14; refine (HN.out _ _).mono ?_; rintro e w' ⟨rfl, rfl⟩))
    rw [← HU.out]
    clear HU x5
    refine (May_any rs _ u2 (progSm HSM.out) HS2.out).mono ?_
    rintro e w3 ⟨rfl, hM3⟩
    rw [HMY.out]
    have hb := hM3.at HB2.out id
    have x5 := cell_at (j := 0) hb rfl
    have HB3 := Lib.hid hb
    have HS3 := Lib.hid (HS2.out.mod0 hM3)
    have HM3 := Lib.hid (HM2.out.trans hM3)
    clear hb hM3 HB2 HS2 HM2
    go_wp2_with (first
      | (go_at_call 14; refine (HN.out _ _).mono ?_; rintro e w' ⟨rfl, rfl⟩))
    refine (spaced_true a c l rs _ w3 (HR.out.mod HM3.out (fun _ _ => id)) (tabs_mod HT.out HM3.out) HS3.out HPP.out).mono ?_
    rintro e w4 ⟨rfl, hM4⟩
    have HB4 := Lib.hid (hM4.at HB3.out id)
    have HS4 := Lib.hid (HS3.out.mod0 hM4)
    have HM4 := Lib.hid (HM3.out.trans hM4)
    clear hM4 HB3 HS3 HM3 x5
    go_wp2_with fail
    refine (HP2.out a2 c2 w4 (HR2.out.mod HM4.out (fun _ _ => id)) (tabs_mod HT.out HM4.out)).mono ?_
    rintro e w5 ⟨s2, rfl, hs2, hM5⟩
    obtain ⟨a5, c5, _, rfl, _⟩ := id hs2
    obtain ⟨u5, hu⟩ : ∃ u, u = w5.alloc (.cells #[.slice a5 qs.length c5] 26) := ⟨_, rfl⟩
    have hm5 : Mod (fun _ => False) w5 u5 := by rw [hu]; exact (Mod.refl _ w5).alloc _
    have hm45 := hM5.trans hm5
    have HM5 : Hid (Mod (fun _ => False) w u5) := Lib.hid (HM4.out.trans hm45)
    have HB5 : Hid (u5.heap[w2.heap.size]? = some (.cells #[.slice a3 rs.length c3] 26 (0, 0))) := Lib.hid (hm45.at HB4.out id)
    have HB9 : Hid (u5.heap[w5.heap.size]? = some (.cells #[.slice a5 qs.length c5] 26 (0, 0))) := by rw [hu]; exact heap_alloc_new w5 _
    have HS5 := Lib.hid (HS4.out.mod0 hm45)
    have HQ5 : Hid (RsAt u5 (.slice a5 qs.length c5) qs) := Lib.hid (hs2.mod0 hm5)
    have HU := Lib.hid hu
    clear hM5 hm5 hm45 hs2 hu HP2 HB4 HS4 HM4
    have HR5 : Hid (Rd u5 a (bts l)) := Lib.hid (HR.out.mod HM5.out (fun _ _ => id))
    have HR5b : Hid (Rd u5 a2 (bts l2)) := Lib.hid (HR2.out.mod HM5.out (fun _ _ => id))
    go_wp2_with (first
      | (go_at_call 14; refine (HN.out _ _).mono ?_; rintro e w' ⟨rfl, rfl⟩)
      | (at_builtin; rw [← HU.out]; refine wpL_append0 rfl (.tmp 58) (.tmp 59) 22 22 rfl ti24 rfl rfl (Src.ofRd ti24.ht l.length c HR5.out (by simp) (bts_one l)) (by have := HNN.out; omega) (by have := HNN.out; unfold maxLen; omega) ?_; intro a6 c6 w6 hO6 hM6 hf6 _
         have HO6 := Lib.hid hO6; have HM6 := Lib.hid hM6; have HF6 := Lib.hid hf6; clear hO6 hM6 hf6)
      | (at_builtin; refine wpL_appendN (us := [_]) rfl (.tmp 61) (.tmp 62) 22 rfl ti24 rfl HO6.out rfl rfl rfl (by have := HNN.out; omega) (by have := HNN.out; unfold maxLen; omega) ?_; intro a7 c7 w7 hO7 hG7 _
         have HO7 := Lib.hid hO7
         have HM7 := Lib.hid (HM6.out.step hG7.mod (fun i hi hs => by have := HF6.out i hs; omega))
         have HF7 : Hid (∀ b, blk a7 = some b → u5.heap.size ≤ b) := Lib.hid (fun b hb => by
           rcases hG7.pos with e | ⟨g, e, hg⟩
           · rw [e] at hb; exact HF6.out b hb
           · rw [e] at hb; cases hb; exact Nat.le_trans HM6.out.size hg)
         have HR7 : Hid (Rd w7 a2 (bts l2)) := Lib.hid (HR5b.out.mod HM7.out (fun _ _ => id))
         clear hO7 hG7 HO6 HM6 HF6)
      | (at_builtin; refine wpL_append rfl (.tmp 64) (.tmp 65) 22 22 rfl ti24 rfl HO7.out rfl (Src.ofRd ti24.ht l2.length c2 HR7.out (by simp) (bts_one l2)) (by have := HNN.out; omega) (by have := HNN.out; unfold maxLen; omega) ?_; intro a8 c8 w8 hO8 hG8 _
         have HO8 := Lib.hid hO8
         have HM8 := Lib.hid (HM7.out.step hG8.mod (fun i hi hs => by have := HF7.out i hs; omega))
         clear hO8 hG8 HO7 HM7 HF7 HR7))
    have hrd : Rd w8 a8 (bts (l ++ 10 :: l2)) := by
      have h1 := HO8.out.rd
      have e : bts (l ++ 10 :: l2) = bts l ++ [.int .u8 10] ++ bts l2 := by simp [bts]
      rw [e]; exact h1
    have HM8' := Lib.hid (HM5.out.trans HM8.out)
    refine (HP3.out a8 c8 w8 hrd (tabs_mod HT.out HM8'.out)).mono ?_
    rintro e w9 ⟨s3, rfl, hs3, hM9⟩
    obtain ⟨a9, c9, _, rfl, _⟩ := id hs3
    obtain ⟨u9, hu⟩ : ∃ u, u = w9.alloc (.cells #[.slice a9 tv.length c9] 26) := ⟨_, rfl⟩
    have hm9 : Mod (fun _ => False) w9 u9 := by rw [hu]; exact (Mod.refl _ w9).alloc _
    have hm59 := (HM8.out.trans hM9).trans hm9
    have HM9 := Lib.hid (HM5.out.trans hm59)
    have HB9' := Lib.hid (hm59.at HB9.out id)
    have HB5' := Lib.hid (hm59.at HB5.out id)
    have HB13 : Hid (u9.heap[w9.heap.size]? = some (.cells #[.slice a9 tv.length c9] 26 (0, 0))) := by rw [hu]; exact heap_alloc_new w9 _
    have HS9 := Lib.hid (HS5.out.mod0 hm59)
    have HQ9 := Lib.hid (HQ5.out.mod0 hm59)
    have HT9 : Hid (RsAt u9 (.slice a9 tv.length c9) tv) := Lib.hid (hs3.mod0 hm9)
    have HV := Lib.hid hu
    clear hM9 hm9 hm59 hs3 hu HP3 HB5 HB9 HS5 HQ5 hrd HM8 HM8' HO8 HR5 HR5b HU HM5
    have y5 := cell_at (j := 0) HB5'.out rfl
    have y9 := cell_at (j := 0) HB9'.out rfl
    have y13 := cell_at (j := 0) HB13.out rfl
    rw [HV.out] at y5 y9 y13
    have hfz := HF.out
    obtain ⟨z, hz⟩ : ∃ z, z = l.length + 1 + l2.length := ⟨_, rfl⟩
    rw [← hz] at hfz ⊢
    have hzb : z ≤ 1048577 := by have := HNN.out; omega
    clear hz
    have hr4 : rs.length ≤ 1024 := HSM.out.1
    have hq4 : qs.length ≤ 1024 := HSQ.out.1
    obtain ⟨f1, f2, f3⟩ := hfz
    by_cases hz1 : 65536 < z
    · have hb1 : decide (65536 < (z : Int)) = true := by simp; omega
      have hb2 : ((nt : Int) != 0) = true := by have := f1 hz1; simp; omega
      clear f1 f2 f3 hz1 hr4 hq4 hzb
      go_wp2_with (first
        | (go_at_call 14; refine (HN.out _ _).mono ?_; rintro e w' ⟨rfl, rfl⟩))
      go_ret
      exact ⟨rfl, by rw [← HV.out]; exact HM9.out⟩
    · have hb1 : decide (65536 < (z : Int)) = false := by simp; omega
      by_cases hnq : nq = 0
      · subst hnq
        by_cases hsum : 1024 < rs.length + qs.length
        · have hb2 : ((nt : Int) != 0) = true := by have := f2 rfl hsum; simp; omega
          have hb3 : decide (1024 < (rs.length : Int) + (qs.length : Int)) = true := by simp; omega
          clear f1 f2 f3 hz1 hsum hzb
          go_wp2_with (first
            | (go_at_call 14; refine (HN.out _ _).mono ?_; rintro e w' ⟨rfl, rfl⟩))
          go_ret
          exact ⟨rfl, by rw [← HV.out]; exact HM9.out⟩
        · obtain ⟨g1, g2⟩ := f3 (by omega) (fun h => hsum h.2)
          have hnt : nt = 0 := g1.2 rfl
          have htv := g2 hnt
          subst hnt
          have hb3 : decide (1024 < (rs.length : Int) + (qs.length : Int)) = false := by simp; omega
          have HTV := Lib.hid htv
          have HSUM : Hid (¬ 1024 < rs.length + qs.length) := hsum
          clear f1 f2 f3 g1 g2 htv hsum hz1
          go_wp2_with (first
            | (go_at_call 14; refine (HN.out _ _).mono ?_; rintro e w' ⟨rfl, rfl⟩))
          have q13 := cell_at (j := 0) HB13.out rfl
          have q5 := cell_at (j := 0) HB5'.out rfl
          have q9 := cell_at (j := 0) HB9'.out rfl
          have HSS : Hid (∀ W, Mod (fun _ => False) u9 W → W.cell? ⟨w9.heap.size, 0, none⟩ = some (.slice a9 tv.length c9) ∧ W.cell? ⟨w2.heap.size, 0, none⟩ = some (.slice a3 rs.length c3) ∧ W.cell? ⟨w5.heap.size, 0, none⟩ = some (.slice a5 qs.length c5)) := fun W m => ⟨m.cell q13 id, m.cell q5 id, m.cell q9 id⟩
          rw [← HV.out]
          clear HV q13 q5 q9 y5 y9 y13
          obtain ⟨_, _, xs, e1, hx1, hrd1, ht1⟩ := HS9.out
          cases e1
          obtain ⟨_, _, ys, e2, hx2, hrd2, ht2⟩ := HQ9.out
          cases e2
          have hl1 : xs.length = rs.length := by rw [← hx1, List.length_map]
          have hl2 : ys.length = qs.length := by rw [← hx2, List.length_map]
          have HL1 := Lib.hid hl1; have HL2 := Lib.hid hl2
          have HX1 := Lib.hid hx1; have HRD1 := Lib.hid hrd1; have HTT1 := Lib.hid ht1
          have HX2 := Lib.hid hx2; have HRD2 := Lib.hid hrd2; have HTT2 := Lib.hid ht2
          clear hx1 hrd1 ht1 hx2 hrd2 ht2 hl1 hl2
          refine wp_region_ord (fun W => W.cell? ⟨w9.heap.size, 0, none⟩ = some (.slice a9 tv.length c9) ∧ W.cell? ⟨w2.heap.size, 0, none⟩ = some (.slice a3 rs.length c3) ∧ W.cell? ⟨w5.heap.size, 0, none⟩ = some (.slice a5 qs.length c5)) [(0, 0), (3, 1), (0, 2), (0, 3), (1, 4), (0, 6), (1, 7), (0, 9), (1, 10), (2, 5), (2, 8), (2, 11), (0, 12), (3, 13), (0, 14), (0, 15)] (by kernel_rfl) (by kernel_rfl) ?_
          have HC := Lib.hid ((Mod.refl (fun _ => False) u9).drew)
          go_wp2_with (first
            | (go_at_call 14; refine (HN.out _ _).mono ?_; rintro e w' ⟨rfl, rfl⟩)
            | (refine ord_pure rfl rfl rfl (fun K hK => ?_); go_big_quiet_op; refine hK _ ?_; clear hK K)
                        | (refine ord_skip rfl rfl ?_; simp only [Act.put, List.setIfInBounds_toArray, List.set_cons_zero, List.set_cons_succ])
                        | (refine ord_held rfl rfl rfl (HSS.out _ HC.out) (fun K hK => ?_); apply Exists.intro; refine ⟨fun w' hs => ?_, hK _ ?_⟩; (revert hs; dsimp only; (try simp only [and_imp]); intros; go_simp; rfl); clear hK K)
                        | (refine ord_keep rfl rfl (HSS.out _ HC.out) (fun K hK => ?_))
                        | (refine ord_drop rfl rfl (fun K hK => ?_))
                        | (refine ord_nil ?_))
          have HC1 := Lib.hid (HC.out.alloc (.cells #[] 40))
          refine hK _ _ (HSS.out _ HC1.out) ?_; clear hK K
          go_wp2_with (first
            | (refine ord_keep rfl rfl (HSS.out _ HC1.out) (fun K hK => ?_); refine wpO_append (.tmp 106) (.tmp 108) 24 24 rfl tiR rfl (Mine.Own.made _ 40 3 #[] 0 0 (by omega) (by unfold maxLen; omega) rfl) rfl (Src.ofRd tiR.ht rs.length c3 (HRD1.out.mod HC1.out (fun _ _ => id)) (by rw [rmsC_length, HL1.out]) (RsAt.one HTT1.out)) (by omega) (by unfold maxLen; omega) ?_; intro a10 c10 x2 hO10 hG10 _
               simp only [Nat.zero_add, List.take_nil, List.nil_append, Nat.zero_mul] at hO10
               have HO10 := Lib.hid hO10
               have HC2 : Hid (Mod (fun _ => False) u9 x2) := Lib.hid (grow_mod0' HC1.out hG10 (Nat.le_refl _))
               have HF10 : Hid (∀ b, blk a10 = some b → u9.heap.size ≤ b) := Lib.hid (fun b hb => by
                 rcases hG10.pos with e | ⟨g, e, hg⟩
                 · rw [e] at hb; simp at hb; omega
                 · rw [e] at hb; cases hb; exact Nat.le_trans HC1.out.size hg)
               clear hO10 hG10
               refine hK _ _ (HSS.out _ HC2.out) ?_; clear hK K)
            | (refine ord_keep rfl rfl (HSS.out _ HC2.out) (fun K hK => ?_); refine wpO_append (.tmp 109) (.tmp 111) 24 24 rfl tiR rfl HO10.out rfl (Src.ofRd tiR.ht qs.length c5 (HRD2.out.mod HC2.out (fun _ _ => id)) (by rw [rmsC_length, HL2.out]) (RsAt.one HTT2.out)) (by omega) (by unfold maxLen; omega) ?_; intro a11 c11 x3 hO11 hG11 _
               have HO11 := Lib.hid hO11
               have HC3 : Hid (Mod (fun _ => False) u9 x3) := Lib.hid (HC2.out.step hG11.mod (fun i hi hs => by have := HF10.out i hs; omega))
               clear hO11 hG11
               refine hK _ _ (HSS.out _ HC3.out) ?_; clear hK K)
            | (refine ord_pure rfl rfl rfl (fun K hK => ?_); go_big_quiet_op; refine hK _ ?_; clear hK K)
                        | (refine ord_skip rfl rfl ?_; simp only [Act.put, List.setIfInBounds_toArray, List.set_cons_zero, List.set_cons_succ])
                        | (refine ord_held rfl rfl rfl (HSS.out _ HC3.out) (fun K hK => ?_); apply Exists.intro; refine ⟨fun w' hs => ?_, hK _ ?_⟩; (revert hs; dsimp only; (try simp only [and_imp]); intros; go_simp; rfl); clear hK K)
                        | (refine ord_keep rfl rfl (HSS.out _ HC3.out) (fun K hK => ?_))
                        | (refine ord_drop rfl rfl (fun K hK => ?_))
                        | (refine ord_nil ?_)
            | (refine ord_pure rfl rfl rfl (fun K hK => ?_); go_big_quiet_op; refine hK _ ?_; clear hK K)
                        | (refine ord_skip rfl rfl ?_; simp only [Act.put, List.setIfInBounds_toArray, List.set_cons_zero, List.set_cons_succ])
                        | (refine ord_held rfl rfl rfl (HSS.out _ HC1.out) (fun K hK => ?_); apply Exists.intro; refine ⟨fun w' hs => ?_, hK _ ?_⟩; (revert hs; dsimp only; (try simp only [and_imp]); intros; go_simp; rfl); clear hK K)
                        | (refine ord_keep rfl rfl (HSS.out _ HC1.out) (fun K hK => ?_))
                        | (refine ord_drop rfl rfl (fun K hK => ?_))
                        | (refine ord_nil ?_))
          have hrs : RsAt x3 (.slice a11 (rs.length + qs.length) c11) tv := by
            have h1 := HO11.out.rd
            rw [← rmsC_append] at h1
            rw [HTV.out]
            refine ⟨a11, c11, xs ++ ys, by rw [List.length_append], by rw [List.map_append, HX1.out, HX2.out], h1, fun x hx => ?_⟩
            rcases List.mem_append.1 hx with hx | hx
            · exact ⟨(HTT1.out x hx).1.mod0 HC3.out, (HTT1.out x hx).2.mod0 HC3.out⟩
            · exact ⟨(HTT2.out x hx).1.mod0 HC3.out, (HTT2.out x hx).2.mod0 HC3.out⟩
          refine (law8Prog_true tv (.slice a9 tv.length c9) _ x3 (HT9.out.mod0 HC3.out) hrs (by have := HST.out.1; omega) (fun r hr => (HST.out.2 r hr).smR)).mono ?_
          rintro e x4 ⟨rfl, hM⟩
          have HC4 := Lib.hid (HC3.out.trans hM)
          clear hM hrs
          go_wp2_with (first
            | (refine ord_pure rfl rfl rfl (fun K hK => ?_); go_big_quiet_op; refine hK _ ?_; clear hK K)
                        | (refine ord_skip rfl rfl ?_; simp only [Act.put, List.setIfInBounds_toArray, List.set_cons_zero, List.set_cons_succ])
                        | (refine ord_held rfl rfl rfl (True.intro) (fun K hK => ?_); apply Exists.intro; refine ⟨fun w' hs => ?_, hK _ ?_⟩; (revert hs; dsimp only; (try simp only [and_imp]); intros; go_simp; rfl); clear hK K)
                        | (refine ord_keep rfl rfl (True.intro) (fun K hK => ?_))
                        | (refine ord_drop rfl rfl (fun K hK => ?_))
                        | (refine ord_nil ?_))
          go_ret
          exact ⟨rfl, HM9.out.trans HC4.out⟩
      · have hnt : nt ≠ 0 := fun h => hnq ((f3 (by omega) (fun h => hnq h.1)).1.1 h)
        have hb2 : ((nt : Int) != 0) = true := by simp; omega
        have hb4 : ((nt : Int) == 0) = false := by simp; omega
        have hb5 : ((nq : Int) == 0) = false := by simp; omega
        clear f1 f2 f3 hz1 hr4 hq4 hzb hnt hnq
        go_wp2_with (first
          | (go_at_call 14; refine (HN.out _ _).mono ?_; rintro e w' ⟨rfl, rfl⟩))
        refine wp_region_ord (fun _ => True) [(0, 0), (3, 1), (0, 2), (0, 3), (1, 4), (0, 6), (1, 7), (0, 9), (1, 10), (2, 5), (2, 8), (2, 11), (0, 12), (3, 13), (0, 14), (0, 15)] (by kernel_rfl) (by kernel_rfl) ?_
        go_wp2_with (first
          | (go_at_call 14; refine (HN.out _ _).mono ?_; rintro e w' ⟨rfl, rfl⟩)
          | (refine ord_pure rfl rfl rfl (fun K hK => ?_); go_big_quiet_op; refine hK _ ?_; clear hK K)
                        | (refine ord_skip rfl rfl ?_; simp only [Act.put, List.setIfInBounds_toArray, List.set_cons_zero, List.set_cons_succ])
                        | (refine ord_held rfl rfl rfl (True.intro) (fun K hK => ?_); apply Exists.intro; refine ⟨fun w' hs => ?_, hK _ ?_⟩; (revert hs; dsimp only; (try simp only [and_imp]); intros; go_simp; rfl); clear hK K)
                        | (refine ord_keep rfl rfl (True.intro) (fun K hK => ?_))
                        | (refine ord_drop rfl rfl (fun K hK => ?_))
                        | (refine ord_nil ?_))
        go_ret
        exact ⟨rfl, by rw [← HV.out]; exact HM9.out.drew⟩
end Go.Proofs.YtgplagdehfhffaaDoor
