/-
  slices.Insert of one, at rules beside their texts.
-/
import Derived.Test.YteecbbnpgmceiaaGreatDoorTidB
namespace Go.Proofs.YteecbbnpgmceiaaGreatDoor
open Go Go.RowKit Go.Mine
set_option linter.unusedVariables false
set_option maxHeartbeats 4000000
set_option maxRecDepth 100000

theorem insT_cells (xs : List Wv) (t : Wv) (i : Nat) : (wnsC xs).take (i * 4) ++ wnC t ++ (wnsC xs).drop (i * 4) = wnsC (xs.take i ++ t :: xs.drop i) := by
  have h1 : ∀ (xs : List Wv) (i : Nat), (wnsC xs).take (i * 4) = wnsC (xs.take i) ∧ (wnsC xs).drop (i * 4) = wnsC (xs.drop i) := by
    intro xs
    induction xs with
    | nil => intro i; simp [wnsC]
    | cons x xs ih =>
      intro i
      cases i with
      | zero => simp [wnsC]
      | succ i =>
        have e : wnsC (x :: xs) = wnC x ++ wnsC xs := rfl
        rw [e, List.take_succ_cons, List.drop_succ_cons, show (i + 1) * 4 = (wnC x).length + i * 4 by rw [wnC_length]; omega, List.take_length_add_append, List.drop_length_add_append, (ih i).1, (ih i).2]
        exact ⟨rfl, rfl⟩
  rw [(h1 xs i).1, (h1 xs i).2, wnsC_append, List.append_assoc]
  rfl
def One (x : Wv) : Prop := (∃ a n c, x.2.1 = .slice a n c) ∧ ∃ a n c, x.2.2 = .slice a n c
theorem One.cell {x : Wv} (h : One x) : x.2.1.oneCell' = true ∧ x.2.2.oneCell' = true := by
  obtain ⟨⟨_, _, _, h1⟩, _, _, _, h2⟩ := h
  rw [h1, h2]
  exact ⟨rfl, rfl⟩
theorem wnC_one {t : Wv} (h : One t) : ∀ u ∈ wnC t, u.oneCell' = true := by
  have := wnsC_one [t] (fun x hx => by rw [List.mem_singleton] at hx; subst hx; exact h.cell)
  simpa [wnsC] using this
theorem shift_eq {us ys v : List Value} {i n : Nat} (hu : us.length = n * 4) (hy : ys.length = 1 * 4) (hi : i < n) :
    ((us ++ ys).take ((i + 1) * 4) ++ us.drop (i * 4) ++ (us ++ ys).drop ((i + 1 + (n - i)) * 4)).take (i * 4) ++ v ++ ((us ++ ys).take ((i + 1) * 4) ++ us.drop (i * 4) ++ (us ++ ys).drop ((i + 1 + (n - i)) * 4)).drop ((i + 1) * 4) = us.take (i * 4) ++ v ++ us.drop (i * 4) := by
  have h0 : (us ++ ys).drop ((i + 1 + (n - i)) * 4) = [] := List.drop_of_length_le (by rw [List.length_append]; omega)
  have hl : ((us ++ ys).take ((i + 1) * 4)).length = (i + 1) * 4 := by rw [List.length_take, List.length_append]; omega
  rw [h0, List.append_nil, List.drop_left' hl, List.take_append_of_le_length (by omega), List.take_take, Nat.min_eq_left (by omega), List.take_append_of_le_length (by omega)]
theorem grow_eq {us zs v : List Value} {i n : Nat} (hu : us.length = n * 4) (hz : zs.length = (n + 1 - i) * 4) (hv : v.length = 4) (hi : i < n) :
    ((us.take (i * 4) ++ zs).take (i * 4) ++ v ++ (us.take (i * 4) ++ zs).drop ((i + 1) * 4)).take ((i + 1) * 4) ++ us.drop (i * 4) ++ ((us.take (i * 4) ++ zs).take (i * 4) ++ v ++ (us.take (i * 4) ++ zs).drop ((i + 1) * 4)).drop ((i + 1 + (n - i)) * 4) = us.take (i * 4) ++ v ++ us.drop (i * 4) := by
  have hl : (us.take (i * 4)).length = i * 4 := by rw [List.length_take]; omega
  have e1 : (us.take (i * 4) ++ zs).take (i * 4) = us.take (i * 4) := List.take_left' hl
  have hl2 : (us.take (i * 4) ++ v).length = (i + 1) * 4 := by rw [List.length_append]; omega
  have h0 : (us.take (i * 4) ++ v ++ (us.take (i * 4) ++ zs).drop ((i + 1) * 4)).drop ((i + 1 + (n - i)) * 4) = [] := List.drop_of_length_le (by rw [List.length_append, hl2, List.length_drop, List.length_append]; omega)
  rw [e1, List.take_left' hl2, h0, List.append_nil]
theorem insert_any (xs : List Wv) (a : Option Addr) (c i vb : Nat) (t : Wv) (w : World) (hO : Mine.Own w 83 4 a xs.length c (wnsC xs)) (hi : i ≤ xs.length) (hn : xs.length ≤ 2 ^ 20)
    (hv : w.heap[vb]? = some (.cells (wnC t).toArray 83 (0, 0))) (hne : blk a ≠ some vb) (h1 : ∀ x ∈ xs, One x) (ht : One t) :
    Calls Tryz.prog 87 #[.slice a xs.length c, .int .i64 i, .slice (some ⟨vb, 0, none⟩) 1 1] w fun e w' => ∃ a' c', e = .returned (.slice a' (xs.length + 1) c') ∧ Mine.Own w' 83 4 a' (xs.length + 1) c' (wnsC (xs.take i ++ t :: xs.drop i)) ∧ Grow w a w' a' := by
  have HT := Lib.hid (wnC_one ht)
  have HX := Lib.hid (wnsC_one xs (fun x hx => (h1 x hx).cell))
  have hvr : Rd w (some ⟨vb, 0, none⟩) (wnC t) := fun j u hu => ⟨vb, 0, rfl, by rw [Nat.zero_add]; exact cell_at hv (by simpa using hu)⟩
  have HVR := Lib.hid hvr
  have HV := Lib.hid hv
  have HI := Lib.hid (insT_cells xs t i)
  have HO := Lib.hid hO
  have hlen : (wnsC xs).length = xs.length * 4 := wnsC_length xs
  generalize wnsC xs = us at *
  generalize hN : xs.length = n at *
  have HN := Lib.hid hN
  clear hvr hv hO h1 ht hN
  by_cases hin : i = n
  · subst hin
    have hcz : i ≤ c := by
      rcases HO.out.2 with ⟨_, h, h2⟩ | ⟨_, _, _, _, h, _⟩
      · omega
      · exact h
    have hs1 : ∀ W : World, (Instr.slice 142 (.slice a i c) (some (.int .i64 i)) none none).run Tryz.prog W = .ok (.slice (subA a c i 4) (i - i) (c - i)) W := fun W => by
      have := run_slice_lo' tiWn a i c i (by omega) (by omega) W
      simpa using this
    go_enter Tryz.func87, Tryz.ntmps87
    go_wp2_with (at_builtin; refine wpL_append rfl (.tmp 23) (.tmp 24) 142 142 rfl tiWn rfl HO.out rfl (Src.ofRd tiWn.ht 1 1 HVR.out rfl HT.out) (by omega) (by unfold maxLen; omega) ?_; intro a2 c2 w2 hO2 hG2 _
                 have HO2 := Lib.hid hO2; have HG2 := Lib.hid hG2; clear hO2 hG2)
    go_ret
    refine ⟨a2, c2, rfl, ?_, HG2.out⟩
    rw [← HI.out, List.take_of_length_le (by omega), List.drop_of_length_le (by omega), List.append_nil]
    exact HO2.out
  · have hlt : i < n := by omega
    obtain ⟨b, cur, rfl, hg, hnc, hcm, hcs, htk⟩ := HO.out.2.resolve_left (by rintro ⟨_, h, _⟩; omega)
    have hbv : vb ≠ b := fun e => hne (by rw [e]; rfl)
    have hs1 : ∀ W : World, (Instr.slice 142 (.slice (some ⟨b, 0, none⟩) n c) (some (.int .i64 i)) none none).run Tryz.prog W = .ok (.slice (some ⟨b, i * 4, none⟩) (n - i) (c - i)) W := lo_slice tiWn b n c i (by omega) (by omega)
    have hne1 : ¬ ((i : Int) = (n : Int)) := by omega
    have HD := Lib.hid (HO.out.rd.drop (i * 4))
    rw [Nat.zero_add] at HD
    have hdl : (us.drop (i * 4)).length = (n - i) * 4 := by rw [List.length_drop]; omega
    have HDL := Lib.hid hdl
    clear hdl
    by_cases hroom : n + 1 ≤ c
    · obtain ⟨ys, hy, hM⟩ := HO.out.more hroom
      have HY := Lib.hid hy; have HMO := Lib.hid hM
      clear hy hM htk hcs hg
      have hs2 : ∀ W : World, (Instr.slice 142 (.slice (some ⟨b, 0, none⟩) n c) none (some (.int .i64 ((n : Int) + 1))) none).run Tryz.prog W = .ok (.slice (some ⟨b, 0, none⟩) (n + 1) c) W := fun W => by
        have := hi_slice tiWn (some ⟨b, 0, none⟩) n c (n + 1) hroom W
        simpa using this
      have hs3 : ∀ W : World, (Instr.slice 142 (.slice (some ⟨b, 0, none⟩) (n + 1) c) (some (.int .i64 ((i : Int) + 1))) none none).run Tryz.prog W = .ok (.slice (some ⟨b, (i + 1) * 4, none⟩) (n + 1 - (i + 1)) (c - (i + 1))) W := fun W => by
        have := lo_slice tiWn b (n + 1) c (i + 1) (by omega) (by omega) W
        simpa using this
      have hs4 : ∀ W : World, (Instr.slice 142 (.slice (some ⟨b, 0, none⟩) (n + 1) c) (some (.int .i64 i)) none none).run Tryz.prog W = .ok (.slice (some ⟨b, i * 4, none⟩) (n + 1 - i) (c - i)) W := lo_slice tiWn b (n + 1) c i (by omega) (by omega)
      have hov : ∀ lb cb, (callFunc 138 #[.slice (some ⟨vb, 0, none⟩) 1 1, .slice (some ⟨b, (i + 1) * 4, none⟩) lb cb]).run Tryz.prog w = .ok (.value (.bool false)) w := fun lb cb => by
        obtain ⟨b', cur', e', hg', _, _, hcs', _⟩ := HO.out.2.resolve_left (by rintro ⟨h, _⟩; cases h)
        cases e'
        rw [run_callFunc_extern Tryz.func138 (by kernel_rfl) (by kernel_rfl) (by kernel_rfl) (e := Extern.SlicesOverlaps.overlaps #[142, 142] #[4]) (by kernel_rfl),
          Lib.run_overlaps_apart w 142 4 83 tiWn.ht 4 (fun w => by kernel_rfl) ⟨vb, 0, none⟩ ⟨b, (i + 1) * 4, none⟩ 1 1 lb cb hbv 83 83 4 cur'.size (by simp [World.shape?, HV.out]) (by simp [World.shape?, hg']) (by omega) (frozen_at HV.out) (frozen_at HV.out)]
        rfl
      have hlt2 : ¬ ((c : Int) < (n : Int) + 1) := by omega
      go_enter Tryz.func87, Tryz.ntmps87
      go_wp2_with (simp only [hov])
      have hvb2 : ∀ b', blk (some (⟨vb, 0, none⟩ : Addr)) = some b' → ¬ b' = b := fun b' hb' e => hbv ((Option.some.inj hb').trans e)
      refine wp_region_ord (fun w' => True) [(0, 0), (0, 1), (0, 2), (0, 3), (0, 4), (0, 5), (0, 6), (0, 7), (3, 8)] (by kernel_rfl) (by kernel_rfl) ?_
      go_wp2_with (first
        | (refine ord_drop rfl rfl (fun K hK => ?_)
           refine wpO_copyK (lo := i + 1) (m := n - i) (.tmp 73) (.tmp 76) rfl tiWn rfl rfl HMO.out.drew (by omega) HDL.out (by simp only [Nat.min_def]; split <;> omega) (by omega) HD.out (fun u hu => HX.out u (List.mem_of_mem_drop hu)) ?_
           intro w1 hO1 hM1
           refine hK _ _ ?_; clear hK K
           have HO1 := Lib.hid hO1; have HM1 := Lib.hid hM1
           have HVR1 := Lib.hid (HVR.out.drew.mod hM1 hvb2)
           clear hO1 hM1)
        | (refine wpL_copyK (lo := i) (m := 1) (us := wnC t) rfl (.tmp 80) (.tmp 81) rfl tiWn rfl rfl HO1.out (by omega) rfl (Nat.min_eq_left (by omega)).symm (by omega) HVR1.out HT.out ?_; intro w2 hO2 hM2; have HO2 := Lib.hid hO2; have HM2 := Lib.hid hM2; clear hO2 hM2)
        | (refine ord_pure rfl rfl rfl (fun K hK => ?_); go_big_quiet_op; refine hK _ ?_; clear hK K)
                                                                | (refine ord_skip rfl rfl ?_; simp only [Act.put, List.setIfInBounds_toArray, List.set_cons_zero, List.set_cons_succ])
                                                                | (refine ord_held rfl rfl rfl (trivial) (fun K hK => ?_); apply Exists.intro; refine ⟨fun w' hs => ?_, hK _ ?_⟩; (revert hs; dsimp only; (try simp only [and_imp]); intros; go_simp; rfl); clear hK K)
                                                                | (refine ord_keep rfl rfl (trivial) (fun K hK => ?_))
                                                                | (refine ord_drop rfl rfl (fun K hK => ?_))
                                                                | (refine ord_nil ?_))
      go_ret
      have HE := shift_eq (v := wnC t) (i := i) (n := n) hlen HY.out hlt
      have h2 := HO2.out
      rw [HE, HI.out] at h2
      exact ⟨_, _, rfl, h2, ⟨((Mod.refl _ w).drew.trans (HM1.out.trans HM2.out)).mono (fun _ _ e => by rw [e]; rfl), .inl rfl⟩⟩
    · have hs2 : ∀ W : World, (Instr.slice 142 (.slice (some ⟨b, 0, none⟩) n c) none (some (.int .i64 i)) none).run Tryz.prog W = .ok (.slice (some ⟨b, 0, none⟩) i c) W := hi_slice tiWn (some ⟨b, 0, none⟩) n c i (by omega)
      have hlt2 : (c : Int) < (n : Int) + 1 := by omega
      clear htk hcs hg
      go_enter Tryz.func87, Tryz.ntmps87
      go_wp2_with (first
       | (at_builtin; refine wpL_appendZ (m := n + 1 - i) (N := n + 1) rfl (.tmp 34) (.tmp 39) 3 rfl tiWn Tryz.underlying3 rfl (HO.out.rd.take (i * 4)) (by rw [List.length_take]; omega) rfl (by omega) (by omega) (by omega) (by omega) (by omega) (by unfold maxLen; omega) ?_; intro g c1 zs w1 hz hO1 hM1 hg1; have HZ := Lib.hid hz; have HO1 := Lib.hid hO1; have HM1 := Lib.hid hM1; have HG1 := Lib.hid hg1
          have hc1 : n + 1 ≤ c1 := by
            rcases hO1.2 with ⟨h, _⟩ | ⟨_, _, _, _, h, _⟩
            · cases h
            · exact h
          have ht1 : ∀ W : World, (Instr.slice 142 (.slice (some ⟨g, 0, none⟩) (n + 1) c1) (some (.int .i64 i)) none none).run Tryz.prog W = .ok (.slice (some ⟨g, i * 4, none⟩) (n + 1 - i) (c1 - i)) W := lo_slice tiWn g (n + 1) c1 i (by omega) (by omega)
          have ht2 : ∀ W : World, (Instr.slice 142 (.slice (some ⟨g, 0, none⟩) (n + 1) c1) (some (.int .i64 ((i : Int) + 1))) none none).run Tryz.prog W = .ok (.slice (some ⟨g, (i + 1) * 4, none⟩) (n + 1 - (i + 1)) (c1 - (i + 1))) W := fun W => by
            have := lo_slice tiWn g (n + 1) c1 (i + 1) (by omega) (by omega) W
            simpa using this
          have hci1 : ¬ (c1 = i) := by omega
          have hci2 : ¬ (c1 = i + 1) := by omega
          have HVR1 := Lib.hid (HVR.out.mod hM1 (fun _ _ => id))
          clear hz hO1 hM1 hg1)
       | (refine wpL_copyK (lo := i) (m := 1) (us := wnC t) rfl (.tmp 43) (.tmp 44) rfl tiWn rfl rfl HO1.out (by omega) rfl (Nat.min_eq_left (by omega)).symm (by omega) HVR1.out HT.out ?_; intro w2 hO2 hM2; have HO2 := Lib.hid hO2; have HM2 := Lib.hid hM2; clear hO2 hM2))
      have hgb : ¬ b = g := fun e => by
        have h1 := HO.out.lt b rfl
        have h2 := HG1.out
        omega
      have hgb2 : ∀ b', blk (some (⟨b, i * 4, none⟩ : Addr)) = some b' → ¬ b' = g := fun b' hb' e => hgb ((Option.some.inj hb').trans e)
      have HD2 := Lib.hid ((HD.out.mod HM1.out (fun _ _ => id)).mod HM2.out hgb2)
      clear hgb2
      simp only [Act.put, List.setIfInBounds_toArray, List.set_cons_zero, List.set_cons_succ]
      refine wp_region_ord (fun w' => True) [(0, 0), (0, 1), (0, 2), (0, 3), (0, 4), (0, 5), (0, 6), (0, 7), (3, 8)] (by kernel_rfl) (by kernel_rfl) ?_
      go_wp2_with (first
        | (refine ord_drop rfl rfl (fun K hK => ?_)
           refine wpO_copyK (lo := i + 1) (m := n - i) (.tmp 50) (.tmp 53) rfl tiWn rfl rfl HO2.out.drew (by omega) HDL.out (Nat.min_eq_left (by omega)).symm (by omega) HD2.out (fun u hu => HX.out u (List.mem_of_mem_drop hu)) ?_
           intro w3 hO3 hM3
           refine hK _ _ ?_; clear hK K
           have HO3 := Lib.hid hO3; have HM3 := Lib.hid hM3; clear hO3 hM3)
        | (refine ord_pure rfl rfl rfl (fun K hK => ?_); go_big_quiet_op; refine hK _ ?_; clear hK K)
                                                                | (refine ord_skip rfl rfl ?_; simp only [Act.put, List.setIfInBounds_toArray, List.set_cons_zero, List.set_cons_succ])
                                                                | (refine ord_held rfl rfl rfl (trivial) (fun K hK => ?_); apply Exists.intro; refine ⟨fun w' hs => ?_, hK _ ?_⟩; (revert hs; dsimp only; (try simp only [and_imp]); intros; go_simp; rfl); clear hK K)
                                                                | (refine ord_keep rfl rfl (trivial) (fun K hK => ?_))
                                                                | (refine ord_drop rfl rfl (fun K hK => ?_))
                                                                | (refine ord_nil ?_))
      go_ret
      have HE := grow_eq (v := wnC t) (zs := zs) (i := i) (n := n) hlen HZ.out rfl hlt
      have h3 := HO3.out
      rw [HE, HI.out] at h3
      have hg1 := HG1.out
      refine ⟨_, _, rfl, h3, ⟨?_, .inr ⟨g, rfl, hg1⟩⟩⟩
      exact ((HM1.out.step HM2.out (fun k hk e => by omega)).drew.step HM3.out (fun k hk e => by omega)).mono (fun _ _ f => f.elim)
end Go.Proofs.YteecbbnpgmceiaaGreatDoor
