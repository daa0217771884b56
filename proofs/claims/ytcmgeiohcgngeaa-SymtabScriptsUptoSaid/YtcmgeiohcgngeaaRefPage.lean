import Derived.Test.YtcmgeiohcgngeaaPage
namespace Go.Proofs.Ytcmgeiohcgngeaa
open Go Go.RowKit Go.Mine
set_option maxHeartbeats 400000
set_option maxRecDepth 100000
set_option linter.unusedVariables false

theorem refPage_any (a : Option Addr) (l : List ByteArray) (c : Nat) (w : World) (hr : Rd w a (sts l)) (hl : l.length ≤ 4194304) (hsz : ∀ s ∈ l, s.size < 2^40) :
    Calls Try.prog 40 #[.slice a l.length c] w fun e w' => ∃ v, e = .returned (.tuple #[v, .int .i64 (pgErr none l)]) ∧ PgRes w w' l v := by
  have HR := Lib.hid hr; have HS := Lib.hid hsz; clear hr hsz
  go_enter Try.func40, Try.ntmps40
  go_wp2_with (go_at_call 52; refine (put_any l.length _ (by omega)).mono ?_; rintro e w1 ⟨g1, c1, rfl, hO1, hg1, hM1⟩; have HO1 := Lib.hid hO1; have HM1 := Lib.hid hM1; clear hO1 hM1)
  go_loopw [5, 4] (fun i b wr => ∃ (k : Nat) (g c' : Nat) (bs : List UInt8), i = .int .i64 k ∧ b = .slice (some ⟨g, 0, none⟩) bs.length c' ∧ k ≤ l.length ∧ Hid (bs = lebl l.length ++ pgBody (l.take k)) ∧ bs.length < 2^36 ∧
      Hid (Own wr 5 1 (some ⟨g, 0, none⟩) bs.length c' (bts bs)) ∧ w.heap.size ≤ g ∧ Hid (Mod (fun _ => False) w wr)
     ∧ Hid (pgErr none l = pgErr (prevAt l k) (l.drop k)) ∧ Hid (∀ s ∈ l.take k, s.size ≤ 4096)) (fun i _ _ => l.length - (intOf i).toNat)
  case atStart => exact ⟨0, g1, c1, lebl l.length, rfl, rfl, by omega, Lib.hid (by simp [pgBody]), by have := lebl_len64 l.length (by omega); omega, HO1, hg1, HM1, Lib.hid (by simp [prevAt]), Lib.hid (by simp)⟩
  case round =>
    obtain ⟨k, g, c', bs, rfl, rfl, hk, hB, hbl, hO, hg, hM, hE, hZ⟩ := hrel
    by_cases hlt : k < l.length
    · have hrd := Lib.hid (HR.out.mod hM.out (fun _ _ => id))
      obtain ⟨b, o, e, hc⟩ := hrd.out k (.string l[k]) (by simp [sts, hlt])
      subst e
      have hdrop : l.drop k = l[k] :: l.drop (k + 1) := List.drop_eq_getElem_cons hlt
      have HD := Lib.hid hdrop; clear hdrop
      have hsz := HS.out l[k] (List.getElem_mem _)
      generalize hs : l[k] = s at *
      have HSK := Lib.hid hs; clear hs
      by_cases hbig : 4096 < s.size
      · go_wp2
        go_ret2
        have e : pgErr none l = 3 := by rw [hE.out, HD.out, pgErr_cons, if_pos hbig]
        exact ⟨.slice none 0 0, by rw [e]; rfl, PgRes.err hM.out (by rw [e]; omega)⟩
      · have hprev : prevAt l (k + 1) = some s := by simp [prevAt, HSK.out, hlt]
        have HPV := Lib.hid hprev; clear hprev
        have hsum : bs.length + (lebl s.size).length + s.size < 2 ^ 36 := by
          have h1 := lebl_len64 l.length (by omega)
          have h2 := pgBody_len hZ.out
          have h3 := lebl_len64 s.size (by omega)
          rw [hB.out]
          simp only [List.length_append, List.length_take] at h2 ⊢
          omega
        have hll := lebl_len64 s.size (by omega)
        have hR0 := HR.out.lt (by intro h; simp [sts] at h; rw [h] at hlt; simp at hlt) b rfl
        by_cases hk0 : 0 < k
        · have hq1 : k - 1 < l.length := by omega
          obtain ⟨b2, o2, e2, hcq⟩ := hrd.out (k - 1) (.string l[k - 1]) (by simp [sts, hq1])
          cases e2
          generalize hq : l[k - 1] = q at *
          have HQ := Lib.hid hq; clear hq
          have hkn : ((k : Int) - 1).toNat = k - 1 := by omega
          have hpk : prevAt l k = some q := by unfold prevAt; rw [if_neg (by omega), ← HQ.out]; simp [hq1]
          have HPK := Lib.hid hpk; clear hpk
          by_cases hb2 : blt q s = true
          · have hb3 : Op.bytesLess q.toList s.toList = true := hb2
            have HB2 := Lib.hid hb2; clear hb2
            go_wp2
            refine wp_region_ord (fun w' => w'.cell? ⟨b, o + (k - 1), none⟩ = some (.string q) ∧ w'.cell? ⟨b, o + k, none⟩ = some (.string s)) [(0, 0), (0, 1), (0, 2), (0, 3), (0, 4), (0, 5), (0, 6), (1, 7), (0, 8), (0, 9), (0, 10), (1, 11), (0, 12), (0, 13), (0, 14)] (by kernel_rfl) (by kernel_rfl) ?_
            go_wp2_with (first
              | (refine ord_pure rfl rfl rfl (fun K hK => ?_); go_big_quiet_op; refine hK _ ?_; clear hK K)
                                                                | (refine ord_skip rfl rfl ?_; simp only [Act.put, List.setIfInBounds_toArray, List.set_cons_zero, List.set_cons_succ])
                                                                | (refine ord_held rfl rfl rfl (by exact ⟨by simpa using hcq, by simpa using hc⟩) (fun K hK => ?_); apply Exists.intro; refine ⟨fun w' hs => ?_, hK _ ?_⟩; (revert hs; dsimp only; (try simp only [and_imp]); intros; go_simp; rfl); clear hK K)
                                                                | (refine ord_keep rfl rfl (by exact ⟨by simpa using hcq, by simpa using hc⟩) (fun K hK => ?_))
                                                                | (refine ord_drop rfl rfl (fun K hK => ?_))
                                                                | (refine ord_nil ?_))
            go_wp2_with (first
              | (go_at_call 52; refine (put_any s.size _ (by omega)).mono ?_; rintro e w2 ⟨g2, c2, rfl, hO2, hg2, hM2⟩
                 have hcc2 := hM2.cell (p := ⟨b, o + k, none⟩) (v := .string s) (by simpa using hc) id
                 have HO2 := Lib.hid hO2; have HM2 := Lib.hid hM2; clear hO2 hM2)
              | (at_builtin; refine wpL_append rfl (.tmp 40) (.tmp 47) 52 52 rfl ti24 rfl (hO.out.mod ((Mod.refl (fun _ => False) wr).drew.trans HM2.out) (fun _ _ => id)) rfl (Src.ofRd ti24.ht _ _ HO2.out.rd (by simp) (bts_one _)) (by omega) (by unfold maxLen; omega) ?_; intro a3 c3 w3 hO3 hG3 _
                 have hcc3 := hG3.mod.cell (p := ⟨b, o + k, none⟩) hcc2 (fun h => by simp at h; omega)
                 have HO3 := Lib.hid hO3; have HG3 := Lib.hid hG3; clear hO3 hG3)
              | (at_builtin; refine wpL_append rfl (.tmp 49) (.tmp 53) 52 9 rfl ti24 rfl HO3.out rfl (Src.ofString _ (by kernel_rfl) s) (by omega) (by unfold maxLen; omega) ?_; intro a4 c4 w4 hO4 hG4 _
                 have HO4 := Lib.hid hO4; have HG4 := Lib.hid (HG3.out.trans hG4); clear hO4 hG4))
            obtain ⟨g4, rfl⟩ := HO4.out.atHead (by have := lebl_pos s.size; omega)
            have hes : s.size = s.data.toList.length := Lib.size_eq s
            go_roundw
            case rel =>
              have e : pgErr none l = pgErr (some s) (l.drop (k + 1)) := by rw [hE.out, HD.out, pgErr_cons, if_neg hbig]; rw [HPK.out]; simp [HB2.out]
              have hlen : (bs ++ lebl s.size ++ s.data.toList).length = bs.length + (lebl s.size).length + s.size := by rw [hes]; simp; omega
              refine ⟨k + 1, g4, c4, bs ++ lebl s.size ++ s.data.toList, by go_num, by rw [hlen], by omega, ?_, by rw [hlen]; exact hsum, ?_, ?_, ?_, ?_, ?_⟩
              · unfold Hid; rw [hB.out, pgBody_snoc l k hlt, HSK.out]; simp [List.append_assoc]
              · rw [hlen, bts_append, bts_append, ← bts_byteCells]; exact HO4.out
              · rcases HG4.out.pos with e' | ⟨b2, e', h2⟩
                · simp at e'; omega
                · simp at e'; have := hM.out.size; have := HM2.out.size; simp at this; omega
              · exact (hM.out.drew.step HM2.out (fun _ _ => id)).step HG4.out.mod (fun i hi hs => by simp at hs; omega)
              · unfold Hid; rw [HPV.out]; exact e
              · intro s' hs'
                rw [List.take_succ_eq_append_getElem hlt] at hs'
                rcases List.mem_append.1 hs' with h | h
                · exact hZ.out s' h
                · simp at h; subst h; rw [HSK.out]; omega
            case measure => simp [intOf]; omega
          · have hb3 : Op.bytesLess q.toList s.toList = false := by simpa [blt] using hb2
            have HB2 := Lib.hid hb2; clear hb2
            go_wp2
            refine wp_region_ord (fun w' => w'.cell? ⟨b, o + (k - 1), none⟩ = some (.string q) ∧ w'.cell? ⟨b, o + k, none⟩ = some (.string s)) [(0, 0), (0, 1), (0, 2), (0, 3), (0, 4), (0, 5), (0, 6), (1, 7), (0, 8), (0, 9), (0, 10), (1, 11), (0, 12), (0, 13), (0, 14)] (by kernel_rfl) (by kernel_rfl) ?_
            go_wp2_with (first
              | (refine ord_pure rfl rfl rfl (fun K hK => ?_); go_big_quiet_op; refine hK _ ?_; clear hK K)
                                                                | (refine ord_skip rfl rfl ?_; simp only [Act.put, List.setIfInBounds_toArray, List.set_cons_zero, List.set_cons_succ])
                                                                | (refine ord_held rfl rfl rfl (by exact ⟨by simpa using hcq, by simpa using hc⟩) (fun K hK => ?_); apply Exists.intro; refine ⟨fun w' hs => ?_, hK _ ?_⟩; (revert hs; dsimp only; (try simp only [and_imp]); intros; go_simp; rfl); clear hK K)
                                                                | (refine ord_keep rfl rfl (by exact ⟨by simpa using hcq, by simpa using hc⟩) (fun K hK => ?_))
                                                                | (refine ord_drop rfl rfl (fun K hK => ?_))
                                                                | (refine ord_nil ?_))
            go_ret2
            have e : pgErr none l = 2 := by rw [hE.out, HD.out, pgErr_cons, if_neg hbig, HPK.out]; simp [HB2.out]
            exact ⟨.slice none 0 0, by rw [e]; rfl, PgRes.err hM.out.drew (by rw [e]; omega)⟩
        · have hkz : decide (0 < k) = false := by simpa using hk0
          have HK0 := Lib.hid (show k = 0 by omega)
          go_wp2
          refine wp_region_ord (fun w' => w'.cell? ⟨b, o + k, none⟩ = some (.string s)) [(0, 0), (0, 1), (0, 2), (0, 3), (0, 4), (0, 5), (0, 6), (1, 7), (0, 8), (0, 9), (0, 10), (1, 11), (0, 12), (0, 13), (0, 14)] (by kernel_rfl) (by kernel_rfl) ?_
          go_wp2_with (first
            | (refine ord_pure rfl rfl rfl (fun K hK => ?_); go_big_quiet_op; refine hK _ ?_; clear hK K)
                                                                | (refine ord_skip rfl rfl ?_; simp only [Act.put, List.setIfInBounds_toArray, List.set_cons_zero, List.set_cons_succ])
                                                                | (refine ord_held rfl rfl rfl (by simpa using hc) (fun K hK => ?_); apply Exists.intro; refine ⟨fun w' hs => ?_, hK _ ?_⟩; (revert hs; dsimp only; (try simp only [and_imp]); intros; go_simp; rfl); clear hK K)
                                                                | (refine ord_keep rfl rfl (by simpa using hc) (fun K hK => ?_))
                                                                | (refine ord_drop rfl rfl (fun K hK => ?_))
                                                                | (refine ord_nil ?_))
          go_wp2_with (first
            | (go_at_call 52; refine (put_any s.size _ (by omega)).mono ?_; rintro e w2 ⟨g2, c2, rfl, hO2, hg2, hM2⟩
               have hcc2 := hM2.cell (p := ⟨b, o + k, none⟩) (v := .string s) (by simpa using hc) id
               have HO2 := Lib.hid hO2; have HM2 := Lib.hid hM2; clear hO2 hM2)
            | (at_builtin; refine wpL_append rfl (.tmp 40) (.tmp 47) 52 52 rfl ti24 rfl (hO.out.mod ((Mod.refl (fun _ => False) wr).drew.trans HM2.out) (fun _ _ => id)) rfl (Src.ofRd ti24.ht _ _ HO2.out.rd (by simp) (bts_one _)) (by omega) (by unfold maxLen; omega) ?_; intro a3 c3 w3 hO3 hG3 _
               have hcc3 := hG3.mod.cell (p := ⟨b, o + k, none⟩) hcc2 (fun h => by simp at h; omega)
               have HO3 := Lib.hid hO3; have HG3 := Lib.hid hG3; clear hO3 hG3)
            | (at_builtin; refine wpL_append rfl (.tmp 49) (.tmp 53) 52 9 rfl ti24 rfl HO3.out rfl (Src.ofString _ (by kernel_rfl) s) (by omega) (by unfold maxLen; omega) ?_; intro a4 c4 w4 hO4 hG4 _
               have HO4 := Lib.hid hO4; have HG4 := Lib.hid (HG3.out.trans hG4); clear hO4 hG4))
          obtain ⟨g4, rfl⟩ := HO4.out.atHead (by have := lebl_pos s.size; omega)
          have hes : s.size = s.data.toList.length := Lib.size_eq s
          go_roundw
          case rel =>
            have e : pgErr none l = pgErr (some s) (l.drop (k + 1)) := by rw [hE.out, HD.out, pgErr_cons, if_neg hbig]; simp [prevAt, HK0.out]
            have hlen : (bs ++ lebl s.size ++ s.data.toList).length = bs.length + (lebl s.size).length + s.size := by rw [hes]; simp; omega
            refine ⟨k + 1, g4, c4, bs ++ lebl s.size ++ s.data.toList, by go_num, by rw [hlen], by omega, ?_, by rw [hlen]; exact hsum, ?_, ?_, ?_, ?_, ?_⟩
            · unfold Hid; rw [hB.out, pgBody_snoc l k hlt, HSK.out]; simp [List.append_assoc]
            · rw [hlen, bts_append, bts_append, ← bts_byteCells]; exact HO4.out
            · rcases HG4.out.pos with e' | ⟨b2, e', h2⟩
              · simp at e'; omega
              · simp at e'; have := hM.out.size; have := HM2.out.size; simp at this; omega
            · exact (hM.out.drew.step HM2.out (fun _ _ => id)).step HG4.out.mod (fun i hi hs => by simp at hs; omega)
            · unfold Hid; rw [HPV.out]; exact e
            · intro s' hs'
              rw [List.take_succ_eq_append_getElem hlt] at hs'
              rcases List.mem_append.1 hs' with h | h
              · exact hZ.out s' h
              · simp at h; subst h; rw [HSK.out]; omega
          case measure => simp [intOf]; omega
    · obtain rfl : k = l.length := by omega
      have e : pgErr none l = 0 := by rw [hE.out, List.drop_length]; cases prevAt l l.length <;> rfl
      have HE := Lib.hid e; clear e
      go_wp2
      go_ret2
      have h2 := hO.out
      have hb := hB.out
      rw [List.take_length] at hb
      have hb' : bs = pgBytes l := hb
      subst hb'
      exact ⟨_, by rw [HE.out]; rfl, PgRes.ok hM.out HE.out h2.rd⟩
end Go.Proofs.Ytcmgeiohcgngeaa
