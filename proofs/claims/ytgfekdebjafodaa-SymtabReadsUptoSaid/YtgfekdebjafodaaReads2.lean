import Derived.Test.YtgfekdebjafodaaReads
namespace Go.Proofs.Ytgfekdebjafodaa
open Go Go.RowKit Go.Mine
set_option maxHeartbeats 400000
set_option maxRecDepth 100000
set_option linter.unusedVariables false

theorem RfAt.modE {S : Nat → Prop} {w w' : World} {p : Nat} {a : Option Addr} {c : Nat} {l : List UInt8} {at_ f : Nat} (h : RfAt w p a c l at_ f) (m : Mod S w w') (h1 : ¬ S p) (h2 : ∀ b, blk a = some b → l = [] ∨ ¬ S b) : RfAt w' p a c l at_ f :=
  ⟨h.ne, h.le, h.lc, h.len, m.at h.heap h1, by
    by_cases hl : l = []
    · subst hl; exact Rd.nil _ _
    · exact h.rd.mod m (fun b hb => (h2 b hb).resolve_left hl)⟩
theorem RfAt.blt {w : World} {p : Nat} {a : Option Addr} {c : Nat} {l : List UInt8} {at_ f : Nat} (h : RfAt w p a c l at_ f) (b : Nat) (hb : blk a = some b) : l = [] ∨ b < w.heap.size := by
  by_cases hl : l = []
  · exact .inl hl
  · exact .inr (h.rd.lt (by simpa [bts] using hl) b hb)

theorem refRead_any (a : Option Addr) (c : Nat) (l : List UInt8) (w : World) (hr : Rd w a (bts l)) (hlen : l.length < 2 ^ 40) (hlc : l.length ≤ c) (hlt : ∀ b, blk a = some b → b < w.heap.size) :
    Calls Try.prog 16 #[.slice a l.length c] w fun e w' => ∃ v, e = .returned (.tuple #[v, .int .i64 (readL l).2.1, .int .i64 (readL l).2.2]) ∧ RdRes w w' (readL l).1 v := by
  obtain ⟨p, hp⟩ : ∃ p, p = w.heap.size := ⟨_, rfl⟩
  have H1 : Hid (RfAt (w.alloc (.cells #[.slice a l.length c, .int .i64 0, .int .i64 0] 93)) w.heap.size a c l 0 0) :=
    ⟨fun h => by have := hlt _ h; omega, Nat.zero_le _, hlc, hlen, heap_alloc_new w _, hr.mod ((Mod.refl (fun _ => False) w).alloc _) (fun _ _ => id)⟩
  have HM1 := Lib.hid ((Mod.refl (fun _ => False) w).alloc (.cells #[.slice a l.length c, .int .i64 0, .int .i64 0] 93))
  clear hr hlt
  have HNum := Lib.hid (rfNum_any w.heap.size a c l 0 0 _ H1.out)
  unfold readL
  generalize stNum l 0 0 = g at *
  obtain ⟨n, at0, f0⟩ := g
  simp only at *
  by_cases hf0 : f0 = 0
  · subst hf0
    rw [if_neg (by simp)]
    by_cases hbig : 4194304 < n
    · rw [if_pos hbig]
      go_enter Try.func16, Try.ntmps16
      go_wp2_with (first
        | (go_at_call 46; refine HNum.out.mono ?_; rintro e w2 ⟨rfl, h2, hM2⟩
           have hc2 : w2.cell? ⟨w.heap.size, 2, none⟩ = some (.int .i64 0) := cell_at h2.heap rfl
           have H2 := Lib.hid h2; have HM2 := Lib.hid (HM1.out.step hM2 (fun i hi hs => by omega)); clear h2 hM2))
      go_ret3
      exact ⟨.slice none 0 0, rfl, RdRes.nil HM2.out⟩
    · rw [if_neg hbig]
      go_enter Try.func16, Try.ntmps16
      go_wp2_with (first
        | (go_at_call 46; refine HNum.out.mono ?_; rintro e w2 ⟨rfl, h2, hM2⟩
           have hc2 : w2.cell? ⟨w.heap.size, 2, none⟩ = some (.int .i64 0) := cell_at h2.heap rfl
           have H2 := Lib.hid h2; have HM2 := Lib.hid (HM1.out.step hM2 (fun i hi hs => by omega)); clear h2 hM2))
      clear HNum H1 HM1
      have HP : Hid (w.heap.size ≤ p) := Nat.le_of_eq hp.symm
      rw [← hp] at H2 hc2 ⊢
      clear hp hc2
      go_loopw [7, 8] (fun t i wr => ∃ (acc : List ByteArray) (a2 : Option Addr) (c2 k at_ : Nat), t = .slice a2 k c2 ∧ i = .int .i64 k ∧ k ≤ n ∧ Hid (acc.length = k) ∧ Hid (Own wr 9 1 a2 k c2 (sts acc)) ∧ Hid (RfAt wr p a c l at_ 0) ∧
        Hid (∀ b, blk a2 = some b → w.heap.size ≤ b ∧ b ≠ p ∧ (l = [] ∨ blk a ≠ some b)) ∧ Hid (Mod (fun _ => False) w wr) ∧ Hid (rdGo l n at0 [] = rdGo l (n - k) at_ acc)) (fun t i _ => n - (intOf i).toNat)
      case atStart => exact ⟨[], none, 0, 0, at0, rfl, rfl, by omega, rfl, Own.nil _ _ _, H2, by intro b h; simp at h, HM2, rfl⟩
      case round =>
        obtain ⟨acc, a2, c2, k, at_, rfl, rfl, hk, hL, hO, hR, hB, hM, hE⟩ := hrel
        have hp := HP.out
        by_cases hlt : k < n
        · have hT := rfText_any p a c 4096 l at_ 0 wr hR.out (by omega)
          obtain ⟨m, hm⟩ : ∃ m, m = n - (k + 1) := ⟨_, rfl⟩
          have hnk : n - k = m + 1 := by omega
          have hErr := fun h => rdGo_err (l := l) (m := m) (at_ := at_) (acc := acc) h
          have hFell := fun h h2 => rdGo_fell (l := l) (m := m) (at_ := at_) (acc := acc) h h2
          have hOn := fun h h2 => rdGo_on (l := l) (m := m) (at_ := at_) (acc := acc) h h2
          rw [← hnk, ← hE.out] at hErr hFell hOn
          generalize stText 4096 l at_ 0 = g at *
          obtain ⟨x, at2, e2⟩ := g
          simp only at *
          generalize (⟨x.toArray⟩ : ByteArray) = t at *
          clear x
          have HT := Lib.hid hT; have HErr := Lib.hid hErr; have HFell := Lib.hid hFell; have HOn := Lib.hid hOn; have HMM := Lib.hid hm
          clear hT hErr hFell hOn hm hnk hE
          by_cases he2 : e2 = 0
          · subst he2
            clear HErr
            by_cases hk0 : 0 < k
            · obtain ⟨g, rfl⟩ := hO.out.atHead (by omega)
              have hgp : g ≠ p := (hB.out g rfl).2.1
              have hq1 : k - 1 < acc.length := by have := hL.out; omega
              have hcq : wr.cell? ⟨g, k - 1, none⟩ = some (.string acc[k - 1]) := by
                obtain ⟨b, o, e, hc⟩ := hO.out.rd (k - 1) (.string acc[k - 1]) (by simp [sts, hq1])
                cases e
                simpa using hc
              have hfe : fell acc t = !blt acc[k - 1] t := fell_last (by have := hL.out; subst this; simp [hq1]) (by omega)
              generalize acc[k - 1] = q at *
              have hkn : ((k : Int) - 1).toNat = k - 1 := by omega
              by_cases hb2 : blt q t = true
              · have hb3 : Op.bytesLess q.toList t.toList = true := hb2
                rw [hb2] at hfe
                have HB2 := Lib.hid hb2; have HFE := Lib.hid hfe; clear hb2 hfe HFell
                go_wp2_with (first
                  | (go_at_call 47; refine HT.out.mono ?_; rintro e w3 ⟨rfl, h3, hM3⟩
                     have hcq3 := hM3.cell hcq hgp; clear hcq
                     have hc2 : w3.cell? ⟨p, 2, none⟩ = some (.int .i64 0) := cell_at h3.heap rfl
                     have H3 := Lib.hid h3; have HM3 := Lib.hid hM3; clear h3 hM3)
                  | (at_builtin; refine wpL_appendN (us := [_]) rfl (.tmp 55) (.tmp 57) 22 rfl ti22r rfl (hO.out.mod HM3.out (by intro b hb; simp at hb; omega)) rfl rfl rfl (by omega) (by unfold maxLen; omega) ?_; intro a4 c4 w4 hO4 hG4 _
                     have HO4 := Lib.hid hO4; have HG4 := Lib.hid hG4; clear hO4 hG4))
                go_roundw
                case rel =>
                  refine ⟨acc ++ [t], a4, c4, k + 1, at2, rfl, by go_num, by omega, by unfold Hid; rw [List.length_append, hL.out]; rfl, Lib.hid (by rw [sts_append]; exact HO4.out), Lib.hid (H3.out.modE HG4.out.mod (by simp; exact hgp) (fun b hb => (hB.out g rfl).2.2.imp id (fun h e => h (by simp at e; subst e; exact hb)))), ?_, ?_, Lib.hid (by rw [HOn.out (by simp) HFE.out, HMM.out])⟩
                  · intro b hb
                    rcases HG4.out.pos with e | ⟨b', e, hb'⟩
                    · rw [e] at hb; exact hB.out b hb
                    · rw [e] at hb; cases hb
                      have h1 := hM.out.size
                      have h2 := HM3.out.size
                      have h3 := (Array.getElem?_eq_some_iff.1 H3.out.heap).1
                      refine ⟨by omega, by omega, ?_⟩
                      by_cases hl : l = []
                      · exact .inl hl
                      · refine .inr (fun h => ?_)
                        have := (H3.out.blt _ h).resolve_left hl
                        omega
                  · exact (hM.out.step HM3.out (fun i hi hs => by omega)).step HG4.out.mod (fun i hi hs => by have := (hB.out g rfl).1; simp at hs; omega)
                case measure => simp [intOf]; omega
              · have hb3 : Op.bytesLess q.toList t.toList = false := by simpa [blt] using hb2
                have hfe2 : fell acc t = true := by rw [hfe]; simpa using hb2
                have HFE := Lib.hid hfe2; clear hb2 hfe hfe2 HOn
                go_wp2_with (first
                  | (go_at_call 47; refine HT.out.mono ?_; rintro e w3 ⟨rfl, h3, hM3⟩
                     have hcq3 := hM3.cell hcq hgp; clear hcq
                     have hc2 : w3.cell? ⟨p, 2, none⟩ = some (.int .i64 0) := cell_at h3.heap rfl
                     have H3 := Lib.hid h3; have HM3 := Lib.hid (hM.out.step hM3 (fun i hi hs => by omega)); clear h3 hM3))
                go_ret3
                rw [HFell.out (by simp) HFE.out]
                exact ⟨.slice none 0 0, rfl, RdRes.nil HM3.out⟩
            · obtain rfl : k = 0 := by omega
              have hacc : acc = [] := List.eq_nil_of_length_eq_zero hL.out
              subst hacc
              obtain ⟨rfl, _, rfl⟩ | ⟨g, _, rfl, _⟩ := hO.out.2
              · clear HFell
                go_wp2_with (first
                  | (go_at_call 47; refine HT.out.mono ?_; rintro e w3 ⟨rfl, h3, hM3⟩
                     skip
                     have hc2 : w3.cell? ⟨p, 2, none⟩ = some (.int .i64 0) := cell_at h3.heap rfl
                     have H3 := Lib.hid h3; have HM3 := Lib.hid hM3; clear h3 hM3)
                  | (at_builtin; refine wpL_appendN (us := [_]) rfl (.tmp 55) (.tmp 57) 22 rfl ti22r rfl (hO.out.mod HM3.out (by intro b hb; simp at hb)) rfl rfl rfl (by omega) (by unfold maxLen; omega) ?_; intro a4 c4 w4 hO4 hG4 _
                     have HO4 := Lib.hid hO4; have HG4 := Lib.hid hG4; clear hO4 hG4))
                go_roundw
                case rel =>
                  refine ⟨[] ++ [t], a4, c4, 0 + 1, at2, rfl, by go_num, by omega, by unfold Hid; rw [List.length_append, hL.out]; rfl, Lib.hid (by rw [sts_append]; exact HO4.out), Lib.hid (H3.out.modE HG4.out.mod (by simp) (by simp)), ?_, ?_, Lib.hid (by rw [HOn.out (by simp) rfl, HMM.out])⟩
                  · intro b hb
                    rcases HG4.out.pos with e | ⟨b', e, hb'⟩
                    · rw [e] at hb; exact hB.out b hb
                    · rw [e] at hb; cases hb
                      have h1 := hM.out.size
                      have h2 := HM3.out.size
                      have h3 := (Array.getElem?_eq_some_iff.1 H3.out.heap).1
                      refine ⟨by omega, by omega, ?_⟩
                      by_cases hl : l = []
                      · exact .inl hl
                      · refine .inr (fun h => ?_)
                        have := (H3.out.blt _ h).resolve_left hl
                        omega
                  · exact (hM.out.step HM3.out (fun i hi hs => by omega)).step HG4.out.mod (fun i hi hs => by simp at hs)
                case measure => simp [intOf]; omega
              · clear HFell
                have hgp : g ≠ p := (hB.out g rfl).2.1
                go_wp2_with (first
                  | (go_at_call 47; refine HT.out.mono ?_; rintro e w3 ⟨rfl, h3, hM3⟩
                     skip
                     have hc2 : w3.cell? ⟨p, 2, none⟩ = some (.int .i64 0) := cell_at h3.heap rfl
                     have H3 := Lib.hid h3; have HM3 := Lib.hid hM3; clear h3 hM3)
                  | (at_builtin; refine wpL_appendN (us := [_]) rfl (.tmp 55) (.tmp 57) 22 rfl ti22r rfl (hO.out.mod HM3.out (by intro b hb; simp at hb; omega)) rfl rfl rfl (by omega) (by unfold maxLen; omega) ?_; intro a4 c4 w4 hO4 hG4 _
                     have HO4 := Lib.hid hO4; have HG4 := Lib.hid hG4; clear hO4 hG4))
                go_roundw
                case rel =>
                  refine ⟨[] ++ [t], a4, c4, 0 + 1, at2, rfl, by go_num, by omega, by unfold Hid; rw [List.length_append, hL.out]; rfl, Lib.hid (by rw [sts_append]; exact HO4.out), Lib.hid (H3.out.modE HG4.out.mod (by simp; exact hgp) (fun b hb => (hB.out g rfl).2.2.imp id (fun h e => h (by simp at e; subst e; exact hb)))), ?_, ?_, Lib.hid (by rw [HOn.out (by simp) rfl, HMM.out])⟩
                  · intro b hb
                    rcases HG4.out.pos with e | ⟨b', e, hb'⟩
                    · rw [e] at hb; exact hB.out b hb
                    · rw [e] at hb; cases hb
                      have h1 := hM.out.size
                      have h2 := HM3.out.size
                      have h3 := (Array.getElem?_eq_some_iff.1 H3.out.heap).1
                      refine ⟨by omega, by omega, ?_⟩
                      by_cases hl : l = []
                      · exact .inl hl
                      · refine .inr (fun h => ?_)
                        have := (H3.out.blt _ h).resolve_left hl
                        omega
                  · exact (hM.out.step HM3.out (fun i hi hs => by omega)).step HG4.out.mod (fun i hi hs => by have := (hB.out g rfl).1; simp at hs; omega)
                case measure => simp [intOf]; omega
          · have hgb : ((e2 : Int) != 0) = true := by simp; omega
            have HG := Lib.hid he2; clear he2 HFell HOn
            go_wp2_with (first
              | (go_at_call 47; refine HT.out.mono ?_; rintro e w3 ⟨rfl, h3, hM3⟩
                 have hc2 : w3.cell? ⟨p, 2, none⟩ = some (.int .i64 e2) := cell_at h3.heap rfl
                 have H3 := Lib.hid h3; have HM3 := Lib.hid (hM.out.step hM3 (fun i hi hs => by omega)); clear h3 hM3))
            refine wp_region_ord (fun _ => True) [(0, 0), (0, 1), (0, 2), (0, 4), (0, 5), (3, 3), (0, 6)] (by kernel_rfl) (by kernel_rfl) ?_
            go_wp2_with (first
              | (refine ord_pure rfl rfl rfl (fun K hK => ?_); go_big_quiet_op; refine hK _ ?_; clear hK K)
                        | (refine ord_skip rfl rfl ?_; simp only [Act.put, List.setIfInBounds_toArray, List.set_cons_zero, List.set_cons_succ])
                        | (refine ord_held rfl rfl rfl (True.intro) (fun K hK => ?_); apply Exists.intro; refine ⟨fun w' hs => ?_, hK _ ?_⟩; (revert hs; dsimp only; (try simp only [and_imp]); intros; go_simp; rfl); clear hK K)
                        | (refine ord_keep rfl rfl (True.intro) (fun K hK => ?_))
                        | (refine ord_drop rfl rfl (fun K hK => ?_))
                        | (refine ord_nil ?_))
            go_ret3
            rw [HErr.out HG.out]
            exact ⟨.slice none 0 0, rfl, RdRes.nil HM3.out.drew⟩
        · obtain rfl : k = n := by omega
          have hc1 : wr.cell? ⟨p, 1, none⟩ = some (.int .i64 at_) := cell_at hR.out.heap rfl
          go_wp2
          refine wp_region_ord (fun _ => True) [(0, 0), (0, 1), (0, 2), (0, 3), (0, 5), (3, 4), (0, 6), (0, 7)] (by kernel_rfl) (by kernel_rfl) ?_
          go_wp2_with (first
            | (refine ord_pure rfl rfl rfl (fun K hK => ?_); go_big_quiet_op; refine hK _ ?_; clear hK K)
                        | (refine ord_skip rfl rfl ?_; simp only [Act.put, List.setIfInBounds_toArray, List.set_cons_zero, List.set_cons_succ])
                        | (refine ord_held rfl rfl rfl (True.intro) (fun K hK => ?_); apply Exists.intro; refine ⟨fun w' hs => ?_, hK _ ?_⟩; (revert hs; dsimp only; (try simp only [and_imp]); intros; go_simp; rfl); clear hK K)
                        | (refine ord_keep rfl rfl (True.intro) (fun K hK => ?_))
                        | (refine ord_drop rfl rfl (fun K hK => ?_))
                        | (refine ord_nil ?_))
          go_ret3
          have := hE.out
          rw [Nat.sub_self, rdGo] at this
          rw [this]
          exact ⟨.slice a2 k c2, rfl, hM.out.drew, a2, c2, by rw [hL.out], hO.out.rd, fun b hb => (hB.out b hb).1⟩
  · have hfb2 : ((f0 : Int) != 0) = true := by simp; omega
    rw [if_pos (by simpa using hf0)]
    have HF := Lib.hid hf0; clear hf0
    go_enter Try.func16, Try.ntmps16
    go_wp2_with (first
      | (go_at_call 46; refine HNum.out.mono ?_; rintro e w2 ⟨rfl, h2, hM2⟩
         have hc2 : w2.cell? ⟨w.heap.size, 2, none⟩ = some (.int .i64 f0) := cell_at h2.heap rfl
         have H2 := Lib.hid h2; have HM2 := Lib.hid (HM1.out.step hM2 (fun i hi hs => by omega)); clear h2 hM2))
    refine wp_region_ord (fun _ => True) [(0, 0), (0, 1), (0, 2), (0, 4), (0, 5), (3, 3), (0, 6)] (by kernel_rfl) (by kernel_rfl) ?_
    go_wp2_with (first
      | (refine ord_pure rfl rfl rfl (fun K hK => ?_); go_big_quiet_op; refine hK _ ?_; clear hK K)
                        | (refine ord_skip rfl rfl ?_; simp only [Act.put, List.setIfInBounds_toArray, List.set_cons_zero, List.set_cons_succ])
                        | (refine ord_held rfl rfl rfl (True.intro) (fun K hK => ?_); apply Exists.intro; refine ⟨fun w' hs => ?_, hK _ ?_⟩; (revert hs; dsimp only; (try simp only [and_imp]); intros; go_simp; rfl); clear hK K)
                        | (refine ord_keep rfl rfl (True.intro) (fun K hK => ?_))
                        | (refine ord_drop rfl rfl (fun K hK => ?_))
                        | (refine ord_nil ?_))
    go_ret3
    exact ⟨.slice none 0 0, rfl, RdRes.nil HM2.out.drew⟩
end Go.Proofs.Ytgfekdebjafodaa
