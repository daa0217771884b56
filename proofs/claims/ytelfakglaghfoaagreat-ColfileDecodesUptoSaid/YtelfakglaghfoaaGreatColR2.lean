/-
  The document's runs: walked.
-/
import Derived.Test.YtelfakglaghfoaaGreatColR
namespace Go.Proofs.YtelfakglaghfoaaGreat
open Go Go.RowKit Go.Mine
set_option linter.unusedVariables false
set_option maxHeartbeats 4000000
set_option maxRecDepth 100000

theorem takeW_all (x : Nat) : ∀ (l : List Nat) (j : Nat) (h : j < l.length), j < (l.takeWhile (· == x)).length → l[j] = x
  | [], j, h, _ => by simp at h
  | y :: r, j, h, hj => by
    by_cases hy : y = x
    · subst hy
      rw [List.takeWhile_cons_of_pos (by simp)] at hj
      cases j with
      | zero => rfl
      | succ j => exact takeW_all y r j (by simpa using h) (by simpa using hj)
    · rw [List.takeWhile_cons_of_neg (by simpa using hy)] at hj
      simp at hj
theorem takeW_end (x : Nat) : ∀ (l : List Nat) (h : (l.takeWhile (· == x)).length < l.length), l[(l.takeWhile (· == x)).length] ≠ x
  | [], h => by simp at h
  | y :: r, h => by
    by_cases hy : y = x
    · subst hy
      have e : ((y :: r).takeWhile (· == y)).length = (r.takeWhile (· == y)).length + 1 := by rw [List.takeWhile_cons_of_pos (by simp)]; rfl
      have h2 : (r.takeWhile (· == y)).length < r.length := by rw [e] at h; simpa using h
      have h3 := takeW_end y r h2
      simp only [e, List.getElem_cons_succ]
      exact h3
    · have e : ((y :: r).takeWhile (· == x)).length = 0 := by rw [List.takeWhile_cons_of_neg (by simpa using hy)]; rfl
      simp only [e, List.getElem_cons_zero]
      exact hy
/-- the run that begins at a place -/
def runT (c : List Nat) (i : Nat) : Nat := ((c.drop (i + 1)).takeWhile (· == c.getD i 0)).length + 1
theorem getD_at {c : List Nat} {i : Nat} (h : i < c.length) : c.getD i 0 = c[i] := by rw [List.getD_eq_getElem?_getD, List.getElem?_eq_getElem h]; rfl
theorem run_at (c : List Nat) (i : Nat) (h : i < c.length) : 1 ≤ runT c i ∧ i + runT c i ≤ c.length ∧ (∀ k, i ≤ k → k < i + runT c i → ∀ hk : k < c.length, c[k] = c[i]) ∧ (∀ hk : i + runT c i < c.length, c[i + runT c i] ≠ c[i]) ∧
    rns (c.drop i) = (c[i], runT c i) :: rns (c.drop (i + runT c i)) := by
  unfold runT
  rw [getD_at h]
  have hl := takeW_le c[i] (c.drop (i + 1))
  have ha := takeW_all c[i] (c.drop (i + 1))
  have he := takeW_end c[i] (c.drop (i + 1))
  have hd : c.drop i = c[i] :: c.drop (i + 1) := List.drop_eq_getElem_cons h
  have hr : rns (c.drop i) = (c[i], ((c.drop (i + 1)).takeWhile (· == c[i])).length + 1) :: rns ((c.drop (i + 1)).drop ((c.drop (i + 1)).takeWhile (· == c[i])).length) := by rw [hd, rns]
  rw [hr]
  generalize ((c.drop (i + 1)).takeWhile (· == c[i])).length = T at *
  rw [List.length_drop] at hl
  refine ⟨by omega, by omega, fun k h1 h2 hk => ?_, fun hk => ?_, by rw [List.drop_drop, show i + 1 + T = i + (T + 1) by omega]⟩
  · by_cases hki : k = i
    · subst hki; rfl
    · have h3 := ha (k - (i + 1)) (by rw [List.length_drop]; omega) (by omega)
      rw [List.getElem_drop] at h3
      have e : i + 1 + (k - (i + 1)) = k := by omega
      simp only [e] at h3
      exact h3
  · have h3 := he (by rw [List.length_drop]; omega)
    rw [List.getElem_drop] at h3
    have e : i + 1 + T = i + (T + 1) := by omega
    simp only [e] at h3
    exact h3
theorem layR_at (c : List Nat) (i : Nat) (h : i < c.length) : layR (c.drop i) = lebl c[i] ++ lebl (runT c i) ++ layR (c.drop (i + runT c i)) := by
  unfold layR
  rw [(run_at c i h).2.2.2.2, List.flatMap_cons]
theorem runR_any (a : Option Addr) (d : Nat) (c : List Nat) (w : World) (hr : Rd w a (u32s c)) (hu : U32 c) (hn : c.length < 2 ^ 32) :
    Calls Tryz.prog 76 #[.slice a c.length d] w (BPost w (layR c)) := by
  have HR := Lib.hid hr; have HU := Lib.hid hu
  clear hr hu
  go_enter Tryz.func76, Tryz.ntmps76
  go_wp2_with fail
  go_loopw [3, 4, 5] (fun bv iv _ wr => ∃ (k : Nat) (a' : Option Addr) (c' : Nat) (bs : List UInt8), iv = .int .i64 k ∧ k ≤ c.length ∧ bv = .slice a' bs.length c' ∧ Hid (layR c = bs ++ layR (c.drop k)) ∧ bs.length ≤ 20 * k ∧ Hid (BOwn w wr a' c' bs)) (fun _ iv _ _ => c.length - (intOf iv).toNat)
  case atStart => exact ⟨0, none, 0, [], rfl, by omega, rfl, Lib.hid rfl, by simp, Lib.hid (BOwn.nil w)⟩
  case round =>
    obtain ⟨i, a', c', bs, rfl, hk, rfl, hB, hbl, hO⟩ := hrel
    by_cases hlt : i < c.length
    · obtain ⟨b, o, rfl, x0⟩ := u32_cell (HR.out.mod hO.out.md (fun _ _ => id)) hlt
      have hx := HU.out _ (List.getElem_mem hlt)
      obtain ⟨hT1, hT2, hTA, hTE, -⟩ := run_at c i hlt
      have hTL := layR_at c i hlt
      have HTA := Lib.hid hTA; have HTE := Lib.hid hTE; have HTL := Lib.hid hTL
      clear hTA hTE hTL
      have hl10 := lebl_len64 c[i] (by omega)
      have hl11 := lebl_len64 (runT c i) (by omega)
      generalize runT c i = T at *
      rename World => wq
      go_wp2_with fail
      go_loopw [5] (fun kv wr => ∃ k : Nat, kv = .int .i64 k ∧ i ≤ k ∧ k ≤ i + T ∧ Hid (Mod (fun _ => False) wq wr)) (fun kv _ => i + T - (intOf kv).toNat)
      case atStart => exact ⟨i, rfl, Nat.le_refl _, by omega, Lib.hid (Mod.refl _ _)⟩
      case round =>
        obtain ⟨k, rfl, h1, h2, hm⟩ := hrel
        have x0' := hm.out.cell x0 id
        by_cases hkT : k < i + T
        · obtain ⟨b', o', e', y0⟩ := u32_cell (HR.out.mod (hO.out.md.trans hm.out) (fun _ _ => id)) (i := k) (by omega)
          cases e'
          rw [HTA.out k h1 hkT (by omega)] at y0
          generalize c[i] = x at *
          have hklen : k < c.length := by omega
          go_wp2_with fail
          refine wp_region_ord (fun w' => w'.cell? ⟨b, o + k, none⟩ = some (.int .u32 (x : Nat)) ∧ w'.cell? ⟨b, o + i, none⟩ = some (.int .u32 (x : Nat))) [(0, 0), (0, 1), (0, 2), (0, 3), (0, 4), (0, 5), (0, 6), (0, 7), (1, 8), (0, 9), (0, 10), (0, 11), (1, 12), (0, 13), (0, 14)] (by kernel_rfl) (by kernel_rfl) ?_
          go_wp2_with (first
            | (refine ord_pure rfl rfl rfl (fun K hK => ?_); go_big_quiet_op; refine hK _ ?_; clear hK K)
                                                                | (refine ord_skip rfl rfl ?_; simp only [Act.put, List.setIfInBounds_toArray, List.set_cons_zero, List.set_cons_succ])
                                                                | (refine ord_held rfl rfl rfl (⟨y0, x0'⟩) (fun K hK => ?_); apply Exists.intro; refine ⟨fun w' hs => ?_, hK _ ?_⟩; (revert hs; dsimp only; (try simp only [and_imp]); intros; go_simp; rfl); clear hK K)
                                                                | (refine ord_keep rfl rfl (⟨y0, x0'⟩) (fun K hK => ?_))
                                                                | (refine ord_drop rfl rfl (fun K hK => ?_))
                                                                | (refine ord_nil ?_))
          go_roundw
          case rel => exact ⟨k + 1, by go_num, by omega, by omega, Lib.hid hm.out.drew⟩
          case measure => simp [intOf]; omega
        · have HKK := Lib.hid (show k = i + T by omega)
          have hik : k ≤ c.length := by omega
          clear hkT h2
          by_cases hke : k < c.length
          · obtain ⟨b', o', e', y0⟩ := u32_cell (HR.out.mod (hO.out.md.trans hm.out) (fun _ _ => id)) (i := k) hke
            cases e'
            have hne : c[k] ≠ c[i] := by have := HTE.out (by rw [← HKK.out]; exact hke); simp only [← HKK.out] at this; exact this
            generalize c[i] = x at *
            generalize c[k] = y at *
            have hbe : ((y : Int) == (x : Int)) = false := by simp; omega
            go_wp2_with fail
            refine wp_region_ord (fun w' => w'.cell? ⟨b, o + k, none⟩ = some (.int .u32 (y : Nat)) ∧ w'.cell? ⟨b, o + i, none⟩ = some (.int .u32 (x : Nat))) [(0, 0), (0, 1), (0, 2), (0, 3), (0, 4), (0, 5), (0, 6), (0, 7), (1, 8), (0, 9), (0, 10), (0, 11), (1, 12), (0, 13), (0, 14)] (by kernel_rfl) (by kernel_rfl) ?_
            go_wp2_with (first
              | (refine ord_pure rfl rfl rfl (fun K hK => ?_); go_big_quiet_op; refine hK _ ?_; clear hK K)
                                                                | (refine ord_skip rfl rfl ?_; simp only [Act.put, List.setIfInBounds_toArray, List.set_cons_zero, List.set_cons_succ])
                                                                | (refine ord_held rfl rfl rfl (⟨y0, x0'⟩) (fun K hK => ?_); apply Exists.intro; refine ⟨fun w' hs => ?_, hK _ ?_⟩; (revert hs; dsimp only; (try simp only [and_imp]); intros; go_simp; rfl); clear hK K)
                                                                | (refine ord_keep rfl rfl (⟨y0, x0'⟩) (fun K hK => ?_))
                                                                | (refine ord_drop rfl rfl (fun K hK => ?_))
                                                                | (refine ord_nil ?_))
            clear y0 hbe
            have HO5 : Hid (BOwn w wr.drew a' c' bs) := Lib.hid (hO.out.mod0 hm.out.drew)
            have z0 : wr.drew.cell? ⟨b, o + i, none⟩ = some (.int .u32 (x : Nat)) := x0'
            have HKT : Hid (((k : Int) - i) = (T : Nat)) := Lib.hid (by have := HKK.out; omega)
            clear hm x0' hO x0
            generalize wr.drew = w5 at *
            go_wp2_with fail
            refine (put_any x _ (by omega)).mono ?_
            rintro e w2 ⟨g2, c2, rfl, hO2, hg2, hM2⟩
            have HO2 := Lib.hid hO2; have HM2 := Lib.hid hM2
            clear hO2 hM2
            go_wp2_with (at_builtin; refine wpL_append rfl (.tmp 28) (.tmp 34) 22 22 rfl ti24 rfl (HO5.out.own.mod HM2.out (fun _ _ => id)) rfl (Src.ofRd ti24.ht _ _ HO2.out.rd (by simp) (bts_one _)) (by omega) (by unfold maxLen; omega) ?_; intro a3 c3 w3 hO3 hG3 _
                         have HO3 := Lib.hid ((HO5.out.mod0 HM2.out).app hG3 hO3 rfl rfl); clear hO3 hG3)
            rw [HKT.out]
            refine (put_any T _ (by omega)).mono ?_
            rintro e w4 ⟨g4, c4, rfl, hO4, hg4, hM4⟩
            have HO4 := Lib.hid hO4; have HM4 := Lib.hid hM4
            clear hO4 hM4
            go_wp2_with (at_builtin; refine wpL_append rfl (.tmp 36) (.tmp 41) 22 22 rfl ti24 rfl (by have := (HO3.out.mod0 HM4.out).own; rw [List.length_append] at this; exact this) rfl (Src.ofRd ti24.ht _ _ HO4.out.rd (by simp) (bts_one _)) (by omega) (by unfold maxLen; omega) ?_; intro a6 c6 w6 hO6 hG6 _
                         have HO6 := Lib.hid ((HO3.out.mod0 HM4.out).app hG6 hO6 rfl (by rw [List.length_append])); clear hO6 hG6)
            go_roundw
            case rel => exact ⟨k, a6, c6, bs ++ lebl x ++ lebl T, rfl, hik, by rw [List.length_append, List.length_append], Lib.hid (by rw [hB.out, HTL.out, HKK.out]; simp only [List.append_assoc]), by have := HKK.out; rw [List.length_append, List.length_append]; omega, HO6⟩
            case measure => have := HKK.out; simp [intOf]; omega
          · generalize c[i] = x at *
            go_wp2_with fail
            refine wp_region_ord (fun w' => True) [(0, 0), (0, 1), (0, 2), (0, 3), (0, 4), (0, 5), (0, 6), (0, 7), (1, 8), (0, 9), (0, 10), (0, 11), (1, 12), (0, 13), (0, 14)] (by kernel_rfl) (by kernel_rfl) ?_
            go_wp2_with (first
              | (refine ord_pure rfl rfl rfl (fun K hK => ?_); go_big_quiet_op; refine hK _ ?_; clear hK K)
                                                                | (refine ord_skip rfl rfl ?_; simp only [Act.put, List.setIfInBounds_toArray, List.set_cons_zero, List.set_cons_succ])
                                                                | (refine ord_held rfl rfl rfl (trivial) (fun K hK => ?_); apply Exists.intro; refine ⟨fun w' hs => ?_, hK _ ?_⟩; (revert hs; dsimp only; (try simp only [and_imp]); intros; go_simp; rfl); clear hK K)
                                                                | (refine ord_keep rfl rfl (trivial) (fun K hK => ?_))
                                                                | (refine ord_drop rfl rfl (fun K hK => ?_))
                                                                | (refine ord_nil ?_))
            have HO5 : Hid (BOwn w wr.drew a' c' bs) := Lib.hid (hO.out.mod0 hm.out.drew)
            have z0 : wr.drew.cell? ⟨b, o + i, none⟩ = some (.int .u32 (x : Nat)) := x0'
            have HKT : Hid (((k : Int) - i) = (T : Nat)) := Lib.hid (by have := HKK.out; omega)
            clear hm x0' hO x0
            generalize wr.drew = w5 at *
            go_wp2_with fail
            refine (put_any x _ (by omega)).mono ?_
            rintro e w2 ⟨g2, c2, rfl, hO2, hg2, hM2⟩
            have HO2 := Lib.hid hO2; have HM2 := Lib.hid hM2
            clear hO2 hM2
            go_wp2_with (at_builtin; refine wpL_append rfl (.tmp 28) (.tmp 34) 22 22 rfl ti24 rfl (HO5.out.own.mod HM2.out (fun _ _ => id)) rfl (Src.ofRd ti24.ht _ _ HO2.out.rd (by simp) (bts_one _)) (by omega) (by unfold maxLen; omega) ?_; intro a3 c3 w3 hO3 hG3 _
                         have HO3 := Lib.hid ((HO5.out.mod0 HM2.out).app hG3 hO3 rfl rfl); clear hO3 hG3)
            rw [HKT.out]
            refine (put_any T _ (by omega)).mono ?_
            rintro e w4 ⟨g4, c4, rfl, hO4, hg4, hM4⟩
            have HO4 := Lib.hid hO4; have HM4 := Lib.hid hM4
            clear hO4 hM4
            go_wp2_with (at_builtin; refine wpL_append rfl (.tmp 36) (.tmp 41) 22 22 rfl ti24 rfl (by have := (HO3.out.mod0 HM4.out).own; rw [List.length_append] at this; exact this) rfl (Src.ofRd ti24.ht _ _ HO4.out.rd (by simp) (bts_one _)) (by omega) (by unfold maxLen; omega) ?_; intro a6 c6 w6 hO6 hG6 _
                         have HO6 := Lib.hid ((HO3.out.mod0 HM4.out).app hG6 hO6 rfl (by rw [List.length_append])); clear hO6 hG6)
            go_roundw
            case rel => exact ⟨k, a6, c6, bs ++ lebl x ++ lebl T, rfl, hik, by rw [List.length_append, List.length_append], Lib.hid (by rw [hB.out, HTL.out, HKK.out]; simp only [List.append_assoc]), by have := HKK.out; rw [List.length_append, List.length_append]; omega, HO6⟩
            case measure => have := HKK.out; simp [intOf]; omega
    · obtain rfl : i = c.length := by omega
      have e : layR c = bs := by
        have := hB.out
        rw [List.drop_length] at this
        have e2 : layR [] = [] := by unfold layR; rw [rns]; rfl
        rw [this, e2, List.append_nil]
      go_wp2_with fail
      go_ret
      exact ⟨a', c', by rw [e]; rfl, by rw [e]; exact hO.out⟩
end Go.Proofs.YtelfakglaghfoaaGreat
