/-
  slices.Insert of one, at rules beside their texts.
-/
import Derived.Test.YtphgglnkdfndiaaDoorTiG
import Derived.Test.YtphgglnkdfndiaaDoorEcG
import Derived.Test.YtphgglnkdfndiaaDoorFamG
namespace Go.Proofs.YtphgglnkdfndiaaDoor
open Go Go.RowKit Go.Mine
set_option linter.unusedVariables false
set_option maxHeartbeats 4000000
set_option maxRecDepth 100000

theorem insT_cells (xs : List Wv) (t : Wv) (i : Nat) : (wnsC xs).take (i * 4) ++ wnC t ++ (wnsC xs).drop (i * 4) = wnsC (xs.take i ++ t :: xs.drop i) := by
  have h1 : ∀ (xs : List Wv) (i : Nat), (wnsC xs).take (i * 4) = wnsC (xs.take i) ∧ (wnsC xs).drop (i * 4) = wnsC (xs.drop i) := by
    intro xs
    induction xs with
    | nil => intro i; simp [wnsC]
    | cons x xs ih =>
      intro i
      cases i with
      | zero => simp [wnsC]
      | succ i =>
        have e : wnsC (x :: xs) = wnC x ++ wnsC xs := rfl
        rw [e, List.take_succ_cons, List.drop_succ_cons, show (i + 1) * 4 = (wnC x).length + i * 4 by rw [wnC_length]; omega, List.take_length_add_append, List.drop_length_add_append, (ih i).1, (ih i).2]
        exact ⟨rfl, rfl⟩
  rw [(h1 xs i).1, (h1 xs i).2, wnsC_append, List.append_assoc]
  rfl
def One (x : Wv) : Prop := (∃ a n c, x.2.1 = .slice a n c) ∧ ∃ a n c, x.2.2 = .slice a n c
theorem One.cell {x : Wv} (h : One x) : x.2.1.oneCell' = true ∧ x.2.2.oneCell' = true := by
  obtain ⟨⟨_, _, _, h1⟩, _, _, _, h2⟩ := h
  rw [h1, h2]
  exact ⟨rfl, rfl⟩
theorem wnC_one {t : Wv} (h : One t) : ∀ u ∈ wnC t, u.oneCell' = true := by
  have := wnsC_one [t] (fun x hx => by rw [List.mem_singleton] at hx; subst hx; exact h.cell)
  simpa [wnsC] using this
theorem shift_eq {us ys v : List Value} {i n : Nat} (hu : us.length = n * 4) (hy : ys.length = 1 * 4) (hi : i < n) :
    ((us ++ ys).take ((i + 1) * 4) ++ us.drop (i * 4) ++ (us ++ ys).drop ((i + 1 + (n - i)) * 4)).take (i * 4) ++ v ++ ((us ++ ys).take ((i + 1) * 4) ++ us.drop (i * 4) ++ (us ++ ys).drop ((i + 1 + (n - i)) * 4)).drop ((i + 1) * 4) = us.take (i * 4) ++ v ++ us.drop (i * 4) := by
  have h0 : (us ++ ys).drop ((i + 1 + (n - i)) * 4) = [] := List.drop_of_length_le (by rw [List.length_append]; omega)
  have hl : ((us ++ ys).take ((i + 1) * 4)).length = (i + 1) * 4 := by rw [List.length_take, List.length_append]; omega
  rw [h0, List.append_nil, List.drop_left' hl, List.take_append_of_le_length (by omega), List.take_take, Nat.min_eq_left (by omega), List.take_append_of_le_length (by omega)]
theorem grow_eq {us zs v : List Value} {i n : Nat} (hu : us.length = n * 4) (hz : zs.length = (n + 1 - i) * 4) (hv : v.length = 4) (hi : i < n) :
    ((us.take (i * 4) ++ zs).take (i * 4) ++ v ++ (us.take (i * 4) ++ zs).drop ((i + 1) * 4)).take ((i + 1) * 4) ++ us.drop (i * 4) ++ ((us.take (i * 4) ++ zs).take (i * 4) ++ v ++ (us.take (i * 4) ++ zs).drop ((i + 1) * 4)).drop ((i + 1 + (n - i)) * 4) = us.take (i * 4) ++ v ++ us.drop (i * 4) := by
  have hl : (us.take (i * 4)).length = i * 4 := by rw [List.length_take]; omega
  have e1 : (us.take (i * 4) ++ zs).take (i * 4) = us.take (i * 4) := List.take_left' hl
  have hl2 : (us.take (i * 4) ++ v).length = (i + 1) * 4 := by rw [List.length_append]; omega
  have h0 : (us.take (i * 4) ++ v ++ (us.take (i * 4) ++ zs).drop ((i + 1) * 4)).drop ((i + 1 + (n - i)) * 4) = [] := List.drop_of_length_le (by rw [List.length_append, hl2, List.length_drop, List.length_append]; omega)
  rw [e1, List.take_left' hl2, h0, List.append_nil]
theorem insert_any (xs : List Wv) (a : Option Addr) (c i vb : Nat) (t : Wv) (w : World) (hO : Mine.Own w 59 4 a xs.length c (wnsC xs)) (hi : i ≤ xs.length) (hn : xs.length ≤ 2 ^ 20)
    (hv : w.heap[vb]? = some (.cells (wnC t).toArray 59 (0, 0))) (hne : blk a ≠ some vb) (h1 : ∀ x ∈ xs, One x) (ht : One t) :
    Calls Tryd.prog 42 #[.slice a xs.length c, .int .i64 i, .slice (some ⟨vb, 0, none⟩) 1 1] w fun e w' => ∃ a' c', e = .returned (.slice a' (xs.length + 1) c') ∧ Mine.Own w' 59 4 a' (xs.length + 1) c' (wnsC (xs.take i ++ t :: xs.drop i)) ∧ Grow w a w' a' := by
  have HT := Lib.hid (wnC_one ht)
  have HX := Lib.hid (wnsC_one xs (fun x hx => (h1 x hx).cell))
  have hvr : Rd w (some ⟨vb, 0, none⟩) (wnC t) := fun j u hu => ⟨vb, 0, rfl, by rw [Nat.zero_add]; exact cell_at hv (by simpa using hu)⟩
  have HVR := Lib.hid hvr
  have HV := Lib.hid hv
  have HI := Lib.hid (insT_cells xs t i)
  have HO := Lib.hid hO
  have hlen : (wnsC xs).length = xs.length * 4 := wnsC_length xs
  generalize wnsC xs = us at *
  generalize hN : xs.length = n at *
  have HN := Lib.hid hN
  clear hvr hv hO h1 ht hN
  by_cases hin : i = n
  · subst hin
    have hcz : i ≤ c := by
      rcases HO.out.2 with ⟨_, h, h2⟩ | ⟨_, _, _, _, h, _⟩
      · omega
      · exact h
    have hs1 : ∀ W : World, (Instr.slice 76 (.slice a i c) (some (.int .i64 i)) none none).run Tryd.prog W = .ok (.slice (subA a c i 4) (i - i) (c - i)) W := fun W => by
      have := run_slice_lo' tiWn a i c i (by omega) (by omega) W
      simpa using this
    go_enter Tryd.func42, Tryd.ntmps42
    go_wp2_with (at_builtin; refine wpL_append rfl (.tmp 23) (.tmp 24) 76 76 rfl tiWn rfl HO.out rfl (Src.ofRd tiWn.ht 1 1 HVR.out rfl HT.out) (by omega) (by unfold maxLen; omega) ?_; intro a2 c2 w2 hO2 hG2 _
                 have HO2 := Lib.hid hO2; have HG2 := Lib.hid hG2; clear hO2 hG2)
    go_ret
    refine ⟨a2, c2, rfl, ?_, HG2.out⟩
    rw [← HI.out, List.take_of_length_le (by omega), List.drop_of_length_le (by omega), List.append_nil]
    exact HO2.out
  · have hlt : i < n := by omega
    obtain ⟨b, cur, rfl, hg, hnc, hcm, hcs, htk⟩ := HO.out.2.resolve_left (by rintro ⟨_, h, _⟩; omega)
    have hbv : vb ≠ b := fun e => hne (by rw [e]; rfl)
    have hs1 : ∀ W : World, (Instr.slice 76 (.slice (some ⟨b, 0, none⟩) n c) (some (.int .i64 i)) none none).run Tryd.prog W = .ok (.slice (some ⟨b, i * 4, none⟩) (n - i) (c - i)) W := lo_slice tiWn b n c i (by omega) (by omega)
    have hne1 : ¬ ((i : Int) = (n : Int)) := by omega
    have HD := Lib.hid (HO.out.rd.drop (i * 4))
    rw [Nat.zero_add] at HD
    have hdl : (us.drop (i * 4)).length = (n - i) * 4 := by rw [List.length_drop]; omega
    have HDL := Lib.hid hdl
    clear hdl
    by_cases hroom : n + 1 ≤ c
    · obtain ⟨ys, hy, hM⟩ := HO.out.more hroom
      have HY := Lib.hid hy; have HMO := Lib.hid hM
      clear hy hM htk hcs hg
      have hs2 : ∀ W : World, (Instr.slice 76 (.slice (some ⟨b, 0, none⟩) n c) none (some (.int .i64 ((n : Int) + 1))) none).run Tryd.prog W = .ok (.slice (some ⟨b, 0, none⟩) (n + 1) c) W := fun W => by
        have := hi_slice tiWn (some ⟨b, 0, none⟩) n c (n + 1) hroom W
        simpa using this
      have hs3 : ∀ W : World, (Instr.slice 76 (.slice (some ⟨b, 0, none⟩) (n + 1) c) (some (.int .i64 ((i : Int) + 1))) none none).run Tryd.prog W = .ok (.slice (some ⟨b, (i + 1) * 4, none⟩) (n + 1 - (i + 1)) (c - (i + 1))) W := fun W => by
        have := lo_slice tiWn b (n + 1) c (i + 1) (by omega) (by omega) W
        simpa using this
      have hs4 : ∀ W : World, (Instr.slice 76 (.slice (some ⟨b, 0, none⟩) (n + 1) c) (some (.int .i64 i)) none none).run Tryd.prog W = .ok (.slice (some ⟨b, i * 4, none⟩) (n + 1 - i) (c - i)) W := lo_slice tiWn b (n + 1) c i (by omega) (by omega)
      have hov : ∀ lb cb, (callFunc 62 #[.slice (some ⟨vb, 0, none⟩) 1 1, .slice (some ⟨b, (i + 1) * 4, none⟩) lb cb]).run Tryd.prog w = .ok (.value (.bool false)) w := fun lb cb => by
        obtain ⟨b', cur', e', hg', _, _, hcs', _⟩ := HO.out.2.resolve_left (by rintro ⟨h, _⟩; cases h)
        cases e'
        rw [run_callFunc_extern Tryd.func62 (by kernel_rfl) (by kernel_rfl) (by kernel_rfl) (e := Extern.SlicesOverlaps.overlaps #[76, 76] #[4]) (by kernel_rfl),
          Lib.run_overlaps_apart w 76 4 59 tiWn.ht 4 (fun w => by kernel_rfl) ⟨vb, 0, none⟩ ⟨b, (i + 1) * 4, none⟩ 1 1 lb cb hbv 59 59 4 cur'.size (by simp [World.shape?, HV.out]) (by simp [World.shape?, hg']) (by omega) (frozen_at HV.out) (frozen_at HV.out)]
        rfl
      have hlt2 : ¬ ((c : Int) < (n : Int) + 1) := by omega
      go_enter Tryd.func42, Tryd.ntmps42
      go_wp2_with (simp only [hov])
      have hvb2 : ∀ b', blk (some (⟨vb, 0, none⟩ : Addr)) = some b' → ¬ b' = b := fun b' hb' e => hbv ((Option.some.inj hb').trans e)
      refine wp_region_ord (fun w' => True) [(0, 0), (0, 1), (0, 2), (0, 3), (0, 4), (0, 5), (0, 6), (0, 7), (3, 8)] (by kernel_rfl) (by kernel_rfl) ?_
      go_wp2_with (first
        | (refine ord_drop rfl rfl (fun K hK => ?_)
           refine wpO_copyK (lo := i + 1) (m := n - i) (.tmp 73) (.tmp 76) rfl tiWn rfl rfl HMO.out.drew (by omega) HDL.out (by simp only [Nat.min_def]; split <;> omega) (by omega) HD.out (fun u hu => HX.out u (List.mem_of_mem_drop hu)) ?_
           intro w1 hO1 hM1
           refine hK _ _ ?_; clear hK K
           have HO1 := Lib.hid hO1; have HM1 := Lib.hid hM1
           have HVR1 := Lib.hid (HVR.out.drew.mod hM1 hvb2)
           clear hO1 hM1)
        | (refine wpL_copyK (lo := i) (m := 1) (us := wnC t) rfl (.tmp 80) (.tmp 81) rfl tiWn rfl rfl HO1.out (by omega) rfl (Nat.min_eq_left (by omega)).symm (by omega) HVR1.out HT.out ?_; intro w2 hO2 hM2; have HO2 := Lib.hid hO2; have HM2 := Lib.hid hM2; clear hO2 hM2)
        | (refine ord_pure rfl rfl rfl (fun K hK => ?_); go_big_quiet_op; refine hK _ ?_; clear hK K)
                                                                | (refine ord_skip rfl rfl ?_; simp only [Act.put, List.setIfInBounds_toArray, List.set_cons_zero, List.set_cons_succ])
                                                                | (refine ord_held rfl rfl rfl (trivial) (fun K hK => ?_); apply Exists.intro; refine ⟨fun w' hs => ?_, hK _ ?_⟩; (revert hs; dsimp only; (try simp only [and_imp]); intros; go_simp; rfl); clear hK K)
                                                                | (refine ord_keep rfl rfl (trivial) (fun K hK => ?_))
                                                                | (refine ord_drop rfl rfl (fun K hK => ?_))
                                                                | (refine ord_nil ?_))
      go_ret
      have HE := shift_eq (v := wnC t) (i := i) (n := n) hlen HY.out hlt
      have h2 := HO2.out
      rw [HE, HI.out] at h2
      exact ⟨_, _, rfl, h2, ⟨((Mod.refl _ w).drew.trans (HM1.out.trans HM2.out)).mono (fun _ _ e => by rw [e]; rfl), .inl rfl⟩⟩
    · have hs2 : ∀ W : World, (Instr.slice 76 (.slice (some ⟨b, 0, none⟩) n c) none (some (.int .i64 i)) none).run Tryd.prog W = .ok (.slice (some ⟨b, 0, none⟩) i c) W := hi_slice tiWn (some ⟨b, 0, none⟩) n c i (by omega)
      have hlt2 : (c : Int) < (n : Int) + 1 := by omega
      clear htk hcs hg
      go_enter Tryd.func42, Tryd.ntmps42
      go_wp2_with (first
       | (at_builtin; refine wpL_appendZ (m := n + 1 - i) (N := n + 1) rfl (.tmp 34) (.tmp 39) 3 rfl tiWn Tryd.underlying3 rfl (HO.out.rd.take (i * 4)) (by rw [List.length_take]; omega) rfl (by omega) (by omega) (by omega) (by omega) (by omega) (by unfold maxLen; omega) ?_; intro g c1 zs w1 hz hO1 hM1 hg1; have HZ := Lib.hid hz; have HO1 := Lib.hid hO1; have HM1 := Lib.hid hM1; have HG1 := Lib.hid hg1
          have hc1 : n + 1 ≤ c1 := by
            rcases hO1.2 with ⟨h, _⟩ | ⟨_, _, _, _, h, _⟩
            · cases h
            · exact h
          have ht1 : ∀ W : World, (Instr.slice 76 (.slice (some ⟨g, 0, none⟩) (n + 1) c1) (some (.int .i64 i)) none none).run Tryd.prog W = .ok (.slice (some ⟨g, i * 4, none⟩) (n + 1 - i) (c1 - i)) W := lo_slice tiWn g (n + 1) c1 i (by omega) (by omega)
          have ht2 : ∀ W : World, (Instr.slice 76 (.slice (some ⟨g, 0, none⟩) (n + 1) c1) (some (.int .i64 ((i : Int) + 1))) none none).run Tryd.prog W = .ok (.slice (some ⟨g, (i + 1) * 4, none⟩) (n + 1 - (i + 1)) (c1 - (i + 1))) W := fun W => by
            have := lo_slice tiWn g (n + 1) c1 (i + 1) (by omega) (by omega) W
            simpa using this
          have hci1 : ¬ (c1 = i) := by omega
          have hci2 : ¬ (c1 = i + 1) := by omega
          have HVR1 := Lib.hid (HVR.out.mod hM1 (fun _ _ => id))
          clear hz hO1 hM1 hg1)
       | (refine wpL_copyK (lo := i) (m := 1) (us := wnC t) rfl (.tmp 43) (.tmp 44) rfl tiWn rfl rfl HO1.out (by omega) rfl (Nat.min_eq_left (by omega)).symm (by omega) HVR1.out HT.out ?_; intro w2 hO2 hM2; have HO2 := Lib.hid hO2; have HM2 := Lib.hid hM2; clear hO2 hM2))
      have hgb : ¬ b = g := fun e => by
        have h1 := HO.out.lt b rfl
        have h2 := HG1.out
        omega
      have hgb2 : ∀ b', blk (some (⟨b, i * 4, none⟩ : Addr)) = some b' → ¬ b' = g := fun b' hb' e => hgb ((Option.some.inj hb').trans e)
      have HD2 := Lib.hid ((HD.out.mod HM1.out (fun _ _ => id)).mod HM2.out hgb2)
      clear hgb2
      simp only [Act.put, List.setIfInBounds_toArray, List.set_cons_zero, List.set_cons_succ]
      refine wp_region_ord (fun w' => True) [(0, 0), (0, 1), (0, 2), (0, 3), (0, 4), (0, 5), (0, 6), (0, 7), (3, 8)] (by kernel_rfl) (by kernel_rfl) ?_
      go_wp2_with (first
        | (refine ord_drop rfl rfl (fun K hK => ?_)
           refine wpO_copyK (lo := i + 1) (m := n - i) (.tmp 50) (.tmp 53) rfl tiWn rfl rfl HO2.out.drew (by omega) HDL.out (Nat.min_eq_left (by omega)).symm (by omega) HD2.out (fun u hu => HX.out u (List.mem_of_mem_drop hu)) ?_
           intro w3 hO3 hM3
           refine hK _ _ ?_; clear hK K
           have HO3 := Lib.hid hO3; have HM3 := Lib.hid hM3; clear hO3 hM3)
        | (refine ord_pure rfl rfl rfl (fun K hK => ?_); go_big_quiet_op; refine hK _ ?_; clear hK K)
                                                                | (refine ord_skip rfl rfl ?_; simp only [Act.put, List.setIfInBounds_toArray, List.set_cons_zero, List.set_cons_succ])
                                                                | (refine ord_held rfl rfl rfl (trivial) (fun K hK => ?_); apply Exists.intro; refine ⟨fun w' hs => ?_, hK _ ?_⟩; (revert hs; dsimp only; (try simp only [and_imp]); intros; go_simp; rfl); clear hK K)
                                                                | (refine ord_keep rfl rfl (trivial) (fun K hK => ?_))
                                                                | (refine ord_drop rfl rfl (fun K hK => ?_))
                                                                | (refine ord_nil ?_))
      go_ret
      have HE := grow_eq (v := wnC t) (zs := zs) (i := i) (n := n) hlen HZ.out rfl hlt
      have h3 := HO3.out
      rw [HE, HI.out] at h3
      have hg1 := HG1.out
      refine ⟨_, _, rfl, h3, ⟨?_, .inr ⟨g, rfl, hg1⟩⟩⟩
      exact ((HM1.out.step HM2.out (fun k hk e => by omega)).drew.step HM3.out (fun k hk e => by omega)).mono (fun _ _ f => f.elim)
end Go.Proofs.YtphgglnkdfndiaaDoor
/-
  Add, at a sorted set of rules beside their texts.
-/
namespace Go.Proofs.YtphgglnkdfndiaaDoor
open Go Go.RowKit Go.Mine
set_option linter.unusedVariables false
set_option maxHeartbeats 4000000
set_option maxRecDepth 100000

def insV (xs : List Wv) (t : Wv) : List Wv := if hasT (tx xs) t.1.1 = true then xs else xs.take (lbT (tx xs) t.1.1) ++ t :: xs.drop (lbT (tx xs) t.1.1)
theorem tx_ins (xs : List Wv) (t : Wv) : tx (insV xs t) = insT (tx xs) t.1 := by
  unfold insV insT
  split
  · rfl
  · unfold tx
    rw [List.map_append, List.map_take, List.map_cons, List.map_drop]
theorem insV_len (xs : List Wv) (t : Wv) : (insV xs t).length ≤ xs.length + 1 := by
  rw [← tx_len, tx_ins, ← tx_len xs]
  exact insT_len _ _
theorem insV_mem {xs : List Wv} {t x : Wv} (h : x ∈ insV xs t) : x = t ∨ x ∈ xs := by
  unfold insV at h
  split at h
  · exact .inr h
  · rcases List.mem_append.1 h with h | h
    · exact .inr (List.mem_of_mem_take h)
    · rcases List.mem_cons.1 h with h | h
      · exact .inl h
      · exact .inr (List.mem_of_mem_drop h)
/-- a set of the call's own -/
structure SetO (w : World) (B : Nat) (a : Option Addr) (c : Nat) (xs : List Wv) : Prop where
  at_ : SetAt w B a xs.length c
  own : Mine.Own w 59 4 a xs.length c (wnsC xs)
  ne : blk a ≠ some B
  sort : SortT (tx xs)
  one : ∀ x ∈ xs, One x
theorem SetO.lt {w : World} {B : Nat} {a : Option Addr} {c : Nat} {xs : List Wv} (h : SetO w B a c xs) : B < w.heap.size := (Array.getElem?_eq_some_iff.1 h.at_).1
theorem SetO.mod {S : Nat → Prop} {w w' : World} {B : Nat} {a : Option Addr} {c : Nat} {xs : List Wv} (h : SetO w B a c xs) (m : Mod S w w') (hB : ¬ S B) (ha : ∀ b, blk a = some b → ¬ S b) : SetO w' B a c xs :=
  ⟨m.at h.at_ hB, h.own.mod m ha, h.ne, h.sort, h.one⟩
theorem SetO.mod0 {w w' : World} {B : Nat} {a : Option Addr} {c : Nat} {xs : List Wv} (h : SetO w B a c xs) (m : Mod (fun _ => False) w w') : SetO w' B a c xs := h.mod m id (fun _ _ => id)
theorem add_any (B : Nat) (xs : List Wv) (a : Option Addr) (c : Nat) (t : Wv) (w : World) (h : SetO w B a c xs) (hn : xs.length ≤ 2 ^ 20) (ht : One t) :
    Calls Tryd.prog 21 #[.pointer (some ⟨B, 0, none⟩), wnV t] w fun e w' => (∃ v, e = .returned v) ∧ ∃ a' c', SetO w' B a' c' (insV xs t) ∧ Mod (fun k => k = B ∨ blk a = some k) w w' ∧ (blk a' = blk a ∨ ∃ g, blk a' = some g ∧ w.heap.size ≤ g) := by
  have HF := Lib.hid (fun (W : World) (m : Mod (fun _ => False) w W) => find_any B xs a c t W (h.at_.trans' m) (h.own.rd.mod m (fun _ _ => id)) (by omega) h.sort)
  have hlb : lbT (tx xs) t.1.1 ≤ xs.length := by have := lbT_le t.1.1 (tx xs); simpa using this
  have HI := Lib.hid (fun (W : World) (vb : Nat) (m : Mod (fun _ => False) w W) (hv : W.heap[vb]? = some (.cells (wnC t).toArray 59 (0, 0))) (hne : blk a ≠ some vb) => insert_any xs a c (lbT (tx xs) t.1.1) vb t W (h.own.mod m (fun _ _ => id)) hlb hn hv hne h.one ht)
  have HTX := Lib.hid (tx_ins xs t)
  have HSO := Lib.hid (insT_sort h.sort t.1)
  have HIV : Hid (insV xs t = if hasT (tx xs) t.1.1 = true then xs else xs.take (lbT (tx xs) t.1.1) ++ t :: xs.drop (lbT (tx xs) t.1.1)) := rfl
  have HON : Hid (∀ x ∈ insV xs t, One x) := fun x hx => by
    rcases insV_mem hx with rfl | hx
    · exact ht
    · exact h.one x hx
  have hBlt := h.lt
  have hm : Mod (fun _ => False) w (w.alloc (.cells (wnC t).toArray 59)) := (Mod.refl _ w).alloc _
  have hb0 := heap_alloc_new w (.cells (wnC t).toArray 59)
  have H := Lib.hid h
  have HM := Lib.hid hm
  have s1 : (w.alloc (.cells (wnC t).toArray 59)).cell? ⟨B, 1, none⟩ = some (.slice a xs.length c) := cell_at (hm.at h.at_ id) rfl
  have x0 : (w.alloc (.cells (wnC t).toArray 59)).cell? ⟨w.heap.size, 0, none⟩ = some (.string t.1.1) := cell_at hb0 rfl
  have x1 : (w.alloc (.cells (wnC t).toArray 59)).cell? ⟨w.heap.size, 1, none⟩ = some (.string t.1.2.head.pred) := cell_at hb0 rfl
  have x2 : (w.alloc (.cells (wnC t).toArray 59)).cell? ⟨w.heap.size, 2, none⟩ = some t.2.1 := cell_at hb0 rfl
  have x3 : (w.alloc (.cells (wnC t).toArray 59)).cell? ⟨w.heap.size, 3, none⟩ = some t.2.2 := cell_at hb0 rfl
  have hsz : (w.alloc (.cells (wnC t).toArray 59)).heap.size = w.heap.size + 1 := by simp
  have HSZ := Lib.hid hsz
  have HBL := Lib.hid hBlt
  clear h hm hb0 hsz hBlt ht
  have HWC : Hid (wnC t = [.string t.1.1, .string t.1.2.head.pred, t.2.1, t.2.2]) := rfl
  rw [HWC.out] at x0 x1 x2 x3 s1 HM HSZ
  rw [HWC.out] at HI
  unfold wnV at HF ⊢
  generalize insV xs t = ys at *
  generalize lbT (tx xs) t.1.1 = L at *
  generalize hasT (tx xs) t.1.1 = Q at *
  generalize hT1 : t.1.1 = tt at *
  generalize hT2 : t.1.2.head.pred = tp at *
  generalize hT3 : t.2.1 = ts at *
  generalize hT4 : t.2.2 = tbv at *
  clear hT1 hT2 hT3 hT4
  go_enter Tryd.func21, Tryd.ntmps21
  go_wp2_with fail
  generalize (w.alloc (.cells [.string tt, .string tp, ts, tbv].toArray 59)) = w0 at *
  refine (HF.out _ HM.out).mono ?_
  rintro e w1 ⟨rfl, hM1⟩
  have HM1 := Lib.hid (HM.out.trans hM1)
  cases Q with
  | true =>
    clear s1 x0 x1 x2 x3 hM1
    go_wp2_with fail
    go_ret
    have hy : ys = xs := HIV.out
    refine ⟨⟨_, rfl⟩, a, c, by rw [hy]; exact H.out.mod0 HM1.out, HM1.out.mono (fun _ _ f => f.elim), .inl rfl⟩
  | false =>
    have hy : ys = xs.take L ++ (t :: xs.drop L) := HIV.out
    have HY := Lib.hid hy
    have s1' := hM1.cell s1 id
    have x0' := hM1.cell x0 id; have x1' := hM1.cell x1 id; have x2' := hM1.cell x2 id; have x3' := hM1.cell x3 id
    clear hy s1 x0 x1 x2 x3 hM1 HF HIV
    go_wp2_with fail
    refine wp_region_ord (fun w' => w'.cell? ⟨B, 1, none⟩ = some (.slice a xs.length c) ∧ (w'.cell? ⟨w.heap.size, 0, none⟩ = some (.string tt) ∧ w'.cell? ⟨w.heap.size, 1, none⟩ = some (.string tp) ∧ w'.cell? ⟨w.heap.size, 2, none⟩ = some ts ∧ w'.cell? ⟨w.heap.size, 3, none⟩ = some tbv)) [(0, 0), (0, 1), (0, 2), (0, 3), (1, 4), (0, 5), (1, 6), (2, 7), (3, 8), (0, 9), (0, 10), (3, 11)] (by kernel_rfl) (by kernel_rfl) ?_
    go_wp2_with (first
      | (refine ord_pure rfl rfl rfl (fun K hK => ?_); go_big_quiet_op; refine hK _ ?_; clear hK K)
                                                                | (refine ord_skip rfl rfl ?_; simp only [Act.put, List.setIfInBounds_toArray, List.set_cons_zero, List.set_cons_succ])
                                                                | (refine ord_held rfl rfl rfl (⟨s1', x0', x1', x2', x3'⟩) (fun K hK => ?_); apply Exists.intro; refine ⟨fun w' hs => ?_, hK _ ?_⟩; (revert hs; dsimp only; (try simp only [and_imp]); intros; go_simp; rfl); clear hK K)
                                                                | (refine ord_keep rfl rfl (⟨s1', x0', x1', x2', x3'⟩) (fun K hK => ?_))
                                                                | (refine ord_drop rfl rfl (fun K hK => ?_))
                                                                | (refine ord_nil ?_))
    have ma : Mod (fun _ => False) w1 (w1.drew.alloc (.cells #[.string tt, .string tp, ts, tbv] 59)) := ((Mod.refl _ w1).drew).alloc _
    refine hK _ _ ⟨ma.cell s1' id, ma.cell x0' id, ma.cell x1' id, ma.cell x2' id, ma.cell x3' id⟩ ?_; clear hK K
    go_wp2_with (first
      | (refine ord_pure rfl rfl rfl (fun K hK => ?_); go_big_quiet_op; refine hK _ ?_; clear hK K)
                                                                | (refine ord_skip rfl rfl ?_; simp only [Act.put, List.setIfInBounds_toArray, List.set_cons_zero, List.set_cons_succ])
                                                                | (refine ord_held rfl rfl rfl (trivial) (fun K hK => ?_); apply Exists.intro; refine ⟨fun w' hs => ?_, hK _ ?_⟩; (revert hs; dsimp only; (try simp only [and_imp]); intros; go_simp; rfl); clear hK K)
                                                                | (refine ord_keep rfl rfl (trivial) (fun K hK => ?_))
                                                                | (refine ord_drop rfl rfl (fun K hK => ?_))
                                                                | (refine ord_nil ?_))
    have hv := heap_alloc_new w1.drew (.cells #[.string tt, .string tp, ts, tbv] 59)
    have hne : blk a ≠ some w1.heap.size := fun e => by
      have h1 := H.out.own.lt _ e
      have h2 := HM1.out.size
      omega
    refine (HI.out _ w1.heap.size (HM1.out.trans ma) hv hne).mono ?_
    rintro e w3 ⟨a', c', rfl, hO, hG⟩
    have hS1 := (HM1.out.trans ma).at H.out.at_ id
    have hS3 := hG.mod.at hS1 H.out.ne
    have HS3 := Lib.hid hS3
    have z1 := cell_at (j := 1) hS3 rfl
    have f1 := frozen_at (j := 1) hS3
    have HO := Lib.hid hO; have HG := Lib.hid hG; have MA := Lib.hid ma
    clear hO hG hS3 hS1 hv hne s1' x0' x1' x2' x3' ma HI
    go_wp2_with (first
      | (refine ord_pure rfl rfl rfl (fun K hK => ?_); go_big_quiet_op; refine hK _ ?_; clear hK K)
                                                                | (refine ord_skip rfl rfl ?_; simp only [Act.put, List.setIfInBounds_toArray, List.set_cons_zero, List.set_cons_succ])
                                                                | (refine ord_held rfl rfl rfl (trivial) (fun K hK => ?_); apply Exists.intro; refine ⟨fun w' hs => ?_, hK _ ?_⟩; (revert hs; dsimp only; (try simp only [and_imp]); intros; go_simp; rfl); clear hK K)
                                                                | (refine ord_keep rfl rfl (trivial) (fun K hK => ?_))
                                                                | (refine ord_drop rfl rfl (fun K hK => ?_))
                                                                | (refine ord_nil ?_))
    go_ret
    have hn3 : blk a' ≠ some B := by
      have h1 := HBL.out
      have h2 := HM1.out.size
      have h3 := MA.out.size
      exact HG.out.ne (by omega) H.out.ne
    have hlen : ys.length = xs.length + 1 := by
      have hlb' : L ≤ xs.length := hlb
      rw [HY.out, List.length_append, List.length_cons, List.length_take, List.length_drop]; omega
    have hm1 : Mod (fun k => k = B ∨ blk a = some k) w w3 := ((HM1.out.trans MA.out).mono (fun _ _ f => f.elim)).step HG.out.mod (fun k _ e => .inr e)
    refine ⟨⟨_, rfl⟩, a', c', ⟨?_, ?_, hn3, ?_, HON.out⟩, hm1.setCell (fun _ => .inl rfl) _, ?_⟩
    · have := heap_setCell_at (j := 1) (.slice a' (xs.length + 1) c') HS3.out
      unfold SetAt
      rw [hlen]; exact this
    · rw [hlen, HY.out]
      exact HO.out.mod ((Mod.refl (fun k => k = B) w3).setCell (fun _ => rfl) _) (fun b hb e => hn3 (by rw [hb, e]))
    · rw [HTX.out]; exact HSO.out
    · rcases HG.out.pos with e | ⟨g, e, hg⟩
      · exact .inl e
      · have h2 := HM1.out.size
        have h3 := MA.out.size
        exact .inr ⟨g, e, by omega⟩
end Go.Proofs.YtphgglnkdfndiaaDoor
/-
  The set's rules one by one.
-/
namespace Go.Proofs.YtphgglnkdfndiaaDoor
open Go Go.RowKit Go.Mine
set_option linter.unusedVariables false
set_option maxHeartbeats 4000000
set_option maxRecDepth 100000

theorem items_any (B : Nat) (xs : List Wv) (a : Option Addr) (c : Nat) (w : World) (h : SetO w B a c xs) (hn : xs.length ≤ 2 ^ 20) :
    Calls Tryd.prog 44 #[.pointer (some ⟨B, 0, none⟩)] w fun e w' => ∃ a c, e = .returned (.slice a xs.length c) ∧ Mine.Own w' 59 4 a xs.length c (wnsC xs) ∧ Mod (fun _ => False) w w' ∧ (∀ b, blk a = some b → w.heap.size ≤ b) := by
  have HC := Lib.hid (cloneW_any xs a c w h.own.rd (by omega) (fun x hx => (h.one x hx).cell))
  have s1 := cell_at (j := 1) h.at_ rfl
  clear h
  go_enter Tryd.func44, Tryd.ntmps44
  go_wp2_with fail
  refine HC.out.mono ?_
  rintro e w1 ⟨a1, c1, rfl, hR, hM, hF⟩
  have HR := Lib.hid hR; have HM := Lib.hid hM; have HF := Lib.hid hF
  clear hR hM hF s1 HC
  go_wp2_with fail
  go_ret
  exact ⟨a1, c1, rfl, HR.out, HM.out, HF.out⟩
theorem values_any (a : Option Addr) (n c : Nat) (w : World) :
    Calls Tryd.prog 43 #[.slice a n c] w fun e w' => e = .returned (.func (.func 64) #[] #[.pointer (some ⟨w.heap.size, 0, none⟩)]) ∧ w' = w.alloc (.cells #[.slice a n c] 76) := by
  go_enter Tryd.func43, Tryd.ntmps43
  go_wp2
  go_ret
  exact ⟨rfl, rfl⟩
theorem eachW_any (B : Nat) (xs : List Wv) (a : Option Addr) (c : Nat) (w : World) (h : SetO w B a c xs) (hn : xs.length ≤ 2 ^ 20) :
    Calls Tryd.prog 22 #[.pointer (some ⟨B, 0, none⟩)] w fun e w' => ∃ V a' c', e = .returned (.func (.func 64) #[] #[.pointer (some ⟨V, 0, none⟩)]) ∧
      w'.heap[V]? = some (.cells #[.slice a' xs.length c'] 76 (0, 0)) ∧ Mine.Own w' 59 4 a' xs.length c' (wnsC xs) ∧ Mod (fun _ => False) w w' ∧ w.heap.size ≤ V ∧ (∀ b, blk a' = some b → w.heap.size ≤ b) := by
  have HC := Lib.hid (items_any B xs a c w h hn)
  clear h
  go_enter Tryd.func22, Tryd.ntmps22
  go_wp2_with fail
  refine HC.out.mono ?_
  rintro e w1 ⟨a1, c1, rfl, hR, hM, hF⟩
  have HR := Lib.hid hR; have HM := Lib.hid hM; have HF := Lib.hid hF
  clear hR hM hF HC
  go_wp2_with fail
  refine (values_any _ _ _ _).mono ?_
  rintro e w2 ⟨rfl, hw⟩
  have HW := Lib.hid hw
  clear hw
  go_wp2_with fail
  go_ret
  have hm : Mod (fun _ => False) w1 w2 := by rw [HW.out]; exact (Mod.refl _ w1).alloc _
  exact ⟨_, a1, c1, rfl, by rw [HW.out]; exact heap_alloc_new w1 _, HR.out.mod hm (fun _ _ => id), HM.out.trans hm, HM.out.size, HF.out⟩

/-- the parts of a slice -/
def sA : Value → Option Addr
  | .slice a _ _ => a
  | _ => none
def sN : Value → Nat
  | .slice _ n _ => n
  | _ => 0
def sC : Value → Nat
  | .slice _ _ c => c
  | _ => 0
def sS (v : Value) : Value := .slice (sA v) (sN v) (sC v)
def wnE (x : Wv) : Value := .agg #[.string x.1.1, .string x.1.2.head.pred, sS x.2.1, sS x.2.2]
def encV (x : Wv) : Array Value := #[wnE x]
/-- what a round keeps: the blocks between two places -/
structure KpR (lo hi : Nat) (W W' : World) : Prop where
  size : W.heap.size ≤ W'.heap.size
  same : ∀ k, lo ≤ k → k < hi → W'.heap[k]? = W.heap[k]?
theorem KpR.trans {lo hi : Nat} {A1 A2 A3 : World} (h : KpR lo hi A1 A2) (k : KpR lo hi A2 A3) : KpR lo hi A1 A3 :=
  ⟨Nat.le_trans h.size k.size, fun i h1 h2 => (k.same i h1 h2).trans (h.same i h1 h2)⟩
theorem KpR.of_mod {S : Nat → Prop} {lo hi : Nat} {W W' : World} (h : Mod S W W') (hl : hi ≤ W.heap.size) (hs : ∀ k, lo ≤ k → k < hi → ¬ S k) : KpR lo hi W W' :=
  ⟨h.size, fun k h1 h2 => h.block k (by omega) (hs k h1 h2)⟩
theorem KpR.putObj {lo hi : Nat} {w : World} (hh : hi ≤ w.heap.size) (W : World) (l : Nat) (o o' : Obj) (hl : w.heap.size ≤ l) (h : W.heap[l]? = some o) (hc : o.isCells = false) (_ : o.isWalk = false) : KpR lo hi W (W.putObj l o') :=
  ⟨by simp, fun k h1 h2 => World.putObj_heap_other (by omega)⟩

attribute [local go_sem] Oper.semAt_some
@[local go_sem, local simp] theorem wide_fnV (f : FuncId) : Fence.wide.fn f = True := rfl
@[local go_sem, local simp] theorem wide_depthV : Fence.wide.depth = none := rfl
theorem rd_of_same {w w' : World} {a : Option Addr} {us : List Value} {lo hi : Nat} (h : Rd w a us) (hk : ∀ k, lo ≤ k → k < hi → w'.heap[k]? = w.heap[k]?) (hb : ∀ b, blk a = some b → lo ≤ b ∧ b < hi) : Rd w' a us := by
  intro i u hi
  obtain ⟨b, o, rfl, hc⟩ := h i u hi
  obtain ⟨h1, h2⟩ := hb b rfl
  exact ⟨b, o, rfl, (World.cell?_of_block (hk b h1 h2)).trans hc⟩
theorem values1_in (n l V lo hi : Nat) (xs : List Wv) (a : Option Addr) (c : Nat) (J Jx : List Wv → World → Prop) (W : World) (hn : xs.length ≤ 2 ^ 20)
    (hJ : AbidesFrom W.heap.size J)
    (hY : ∀ pre x W1, J pre W1 → pre.length < xs.length → YieldAt Fence.wide (n - 1) Tryd.prog l (encV x) W1 fun e W' =>
      (e = .returned (.bool true) ∧ J (pre ++ [x]) W' ∧ KpR lo hi W1 W') ∨ (e = .returned (.bool false) ∧ Jx (pre ++ [x]) W'))
    (hV : W.heap[V]? = some (.cells #[.slice a xs.length c] 76 (0, 0))) (hR : Rd W a (wnsC xs)) (hlo : lo ≤ V ∧ V < hi) (hab : ∀ b, blk a = some b → lo ≤ b ∧ b < hi) (hhi : hi ≤ W.heap.size) (h0 : J [] W) (h1 : ∀ x ∈ xs, One x) :
    CallsIn Fence.wide n Tryd.prog 64 #[.func (.yield l) #[] #[], .pointer (some ⟨V, 0, none⟩)] W fun e W' => (∃ v, e = .returned v) ∧
      ((∃ ys, ys = xs ∧ J ys W') ∨ (∃ pre, pre <+: xs ∧ Jx pre W')) := by
  refine callsIn_of_wp Tryd.func64 rfl trivial ?_ rfl
  simp only [Tryd.ntmps64, List.size_toArray, List.length_cons, List.length_nil, Nat.reduceAdd, Nat.reduceSub, Array.replicate_succ, Array.replicate_zero, List.push_toArray, List.append_toArray, List.nil_append, List.cons_append]
  have cV : W.cell? ⟨V, 0, none⟩ = some (.slice a xs.length c) := cell_at hV rfl
  have HY := Lib.hid hY; have HV := Lib.hid hV; have HR := Lib.hid hR; have HAB := Lib.hid hab; have H0 := Lib.hid h0; have HJ := Lib.hid hJ
  have HLO := Lib.hid hlo; have HHI := Lib.hid hhi; have H1 := Lib.hid h1
  clear hY hV hR hab h0 hJ hlo hhi h1
  gi_wp2
  clear cV
  gi_loopw [4, 7] (fun _ iv wr => ∃ k : Nat, iv = .int .i64 k ∧ k ≤ xs.length ∧ Hid (J (xs.take k) wr) ∧ Hid (KpR lo hi W wr)) (fun _ iv _ => xs.length - (intOf iv).toNat)
  case atStart => exact ⟨0, rfl, Nat.zero_le _, Lib.hid (by simpa using H0.out), Lib.hid ⟨Nat.le_refl _, fun _ _ _ => rfl⟩⟩
  case round =>
    obtain ⟨k, rfl, hk, hJs, hKp⟩ := hrel
    by_cases hlt : k < xs.length
    · obtain ⟨b, o, rfl, x0, x1, x2, x3⟩ := rd_cellW (rd_of_same HR.out hKp.out.same HAB.out) hlt
      have hm1 : Mod (fun _ => False) wr (wr.alloc (.cells (wnC xs[k]).toArray 59)) := (Mod.refl _ wr).alloc _
      have hb1 := heap_alloc_new wr (.cells (wnC xs[k]).toArray 59)
      have y0 : (wr.alloc (.cells (wnC xs[k]).toArray 59)).cell? ⟨wr.heap.size, 0, none⟩ = some (.string xs[k].1.1) := cell_at hb1 rfl
      have y1 : (wr.alloc (.cells (wnC xs[k]).toArray 59)).cell? ⟨wr.heap.size, 1, none⟩ = some (.string xs[k].1.2.head.pred) := cell_at hb1 rfl
      have y2 : (wr.alloc (.cells (wnC xs[k]).toArray 59)).cell? ⟨wr.heap.size, 2, none⟩ = some xs[k].2.1 := cell_at hb1 rfl
      have y3 : (wr.alloc (.cells (wnC xs[k]).toArray 59)).cell? ⟨wr.heap.size, 3, none⟩ = some xs[k].2.2 := cell_at hb1 rfl
      obtain ⟨fn, tmps, assign, body, hy0, hRr⟩ := HY.out (xs.take k) xs[k] (wr.alloc (.cells (wnC xs[k]).toArray 59)) (abides_mod HJ.out hJs.out hm1) (by rw [List.length_take]; omega)
      have HRr := Lib.hid hRr
      have HKA := Lib.hid (KpR.trans hKp.out (KpR.of_mod (lo := lo) hm1 (Nat.le_trans HHI.out hKp.out.size) (fun _ _ _ => id)))
      have htk : xs.take k ++ [xs[k]] = xs.take (k + 1) := List.take_append_getElem hlt
      rw [htk] at HRr
      have HTK := Lib.hid htk
      unfold encV wnE at hy0
      have HWC : Hid (wnC xs[k] = [.string xs[k].1.1, .string xs[k].1.2.head.pred, xs[k].2.1, xs[k].2.2]) := rfl
      rw [HWC.out] at y0 y1 y2 y3 HRr HKA hy0
      obtain ⟨⟨ta, tn, tc, hts⟩, ua, un, uc, htb⟩ := H1.out xs[k] (List.getElem_mem hlt)
      rw [hts] at x2 y2 HRr HKA hy0 y0 y1 y3
      rw [htb] at x3 y3 HRr HKA hy0 y0 y1 y2
      clear hts htb HWC
      unfold sS at hy0
      simp only [sA, sN, sC] at hy0
      clear hb1 hRr htk hm1
      generalize xs[k].1.1 = tt at *
      generalize xs[k].1.2.head.pred = tp at *
      have hy : (Instr.yield l #[.agg #[.string tt, .string tp, .slice ta tn tc, .slice ua un uc]]).run Tryd.prog (wr.alloc (.cells #[.string tt, .string tp, .slice ta tn tc, .slice ua un uc] 59)) = .ok (.round l fn tmps assign body) (wr.alloc (.cells #[.string tt, .string tp, .slice ta tn tc, .slice ua un uc] 59)) := hy0
      clear hy0
      gi_wp2
      refine HRr.out.mono ?_
      rintro e W3 (⟨rfl, hJ3, hk3⟩ | ⟨rfl, hJx3⟩)
      · have HK3 := Lib.hid (KpR.trans HKA.out hk3); have HJ3 := Lib.hid hJ3; clear hk3 hJ3
        gi_wp2
        go_roundw
        case rel => exact ⟨k + 1, by go_num, hlt, HJ3, HK3⟩
        case measure => simp [intOf]; omega
      · gi_wp2
        refine bodyPost_ret (results_none rfl _ _ _) rfl ?_
        exact ⟨⟨_, rfl⟩, .inr ⟨_, List.take_prefix _ _, hJx3⟩⟩
    · obtain rfl : k = xs.length := by omega
      gi_wp2
      go_end0
      exact ⟨⟨_, rfl⟩, .inl ⟨xs, rfl, by have := hJs.out; rwa [List.take_length] at this⟩⟩
theorem values_stops (n V lo : Nat) (xs : List Wv) (a : Option Addr) (c : Nat) (w : World) (hn : xs.length ≤ 2 ^ 20) (hV : w.heap[V]? = some (.cells #[.slice a xs.length c] 76 (0, 0))) (hO : Mine.Own w 59 4 a xs.length c (wnsC xs)) (hlo : lo ≤ V) (hab : ∀ b, blk a = some b → lo ≤ b) (h1 : ∀ x ∈ xs, One x) :
    SeqStopsK Fence.wide n Tryd.prog 64 #[.pointer (some ⟨V, 0, none⟩)] encV (KpR lo w.heap.size) (fun ys => ys = xs) (fun pre => pre <+: xs) xs.length w := by
  intro l J Jx W hW hJ hJx hY h0
  have hM : Mod (fun _ => False) w W := Mod.ofBelow hW
  exact values1_in n l V lo w.heap.size xs a c J Jx W hn hJ hY (hM.at hV id) (hO.rd.mod hM (fun _ _ => id)) ⟨hlo, (Array.getElem?_eq_some_iff.1 hV).1⟩ (fun b hb => ⟨hab b hb, hO.lt b hb⟩) hM.size h0 h1
end Go.Proofs.YtphgglnkdfndiaaDoor
/-
  What a set of written rules is made of lies in blocks of its own.
-/
namespace Go.Proofs.YtphgglnkdfndiaaDoor
open Go Go.RowKit Go.Mine
set_option linter.unusedVariables false

def setI (B : Nat) (a : Option Addr) (c : Nat) (xs : List Wv) : It :=
  ⟨fun b => b = B ∨ blk a = some b, fun w => SetO w B a c xs, fun S w w' h m hs => h.mod m (hs B (.inl rfl)) (fun b hb => hs b (.inr hb)), fun w h b hb => by
    rcases hb with rfl | hb
    · exact h.lt
    · exact h.own.lt b hb⟩
def TF (L : Nat) (w : World) (B : Nat) (a : Option Addr) (c : Nat) (xs : List Wv) : Prop :=
  ∃ ds : List RD, xs.map (fun x => (x.2.1, x.2.2)) = ds.map (fun d => (d.s.val, d.b.val)) ∧ (∀ d ∈ ds, d.Ok) ∧ Fam L w (setI B a c xs :: ds.flatMap rIts)
section
variable {L : Nat} {w w' : World} {B : Nat} {a : Option Addr} {c : Nat} {xs : List Wv}
theorem TF.start (h : SetO w B none 0 []) (hL : L ≤ B) : TF L w B none 0 [] :=
  ⟨[], rfl, (fun _ h => by cases h), Fam.one (i := setI B none 0 []) h (fun b hb => by
    rcases hb with rfl | hb
    · exact hL
    · cases hb) (by have := h.lt; omega)⟩
theorem TF.mod0 (h : TF L w B a c xs) (m : Mod (fun _ => False) w w') : TF L w' B a c xs := by
  obtain ⟨ds, h1, h2, h3⟩ := h
  exact ⟨ds, h1, h2, h3.mod0 m⟩
theorem TF.add {w5 : World} {a5 : Option Addr} {c5 : Nat} {t : Wv} {d : RD} {L' : Nat} (h : TF L w B a c xs) (m : Mod (fun _ => False) w w') (hd : RuO w' L' d) (hl : w.heap.size ≤ L') (ht : t.2 = (d.s.val, d.b.val))
    (h5 : SetO w5 B a5 c5 (insV xs t)) (m5 : Mod (fun k => k = B ∨ blk a = some k) w' w5) (hp : blk a5 = blk a ∨ ∃ g, blk a5 = some g ∧ w'.heap.size ≤ g) : TF L w5 B a5 c5 (insV xs t) := by
  obtain ⟨ds, h1, h2, h3⟩ := h
  have hf : ∀ b, (setI B a5 c5 (insV xs t)).F b → (setI B a c xs).F b ∨ w'.heap.size ≤ b := fun b hb => by
    rcases hb with hb | hb
    · exact .inl (.inl hb)
    · rcases hp with e | ⟨g, e, hg⟩
      · rw [e] at hb; exact .inl (.inr hb)
      · rw [e] at hb; cases hb; exact .inr hg
  by_cases hh : hasT (tx xs) t.1.1 = true
  · refine ⟨ds, ?_, h2, (h3.mod0 m).upd0 m5 h5 hf⟩
    unfold insV; rw [if_pos hh]; exact h1
  · refine ⟨ds.take (lbT (tx xs) t.1.1) ++ d :: ds.drop (lbT (tx xs) t.1.1), ?_, fun x hx => ?_, ?_⟩
    · unfold insV; rw [if_neg hh]
      rw [List.map_append, List.map_cons, List.map_take, List.map_drop, h1, ht, List.map_append, List.map_cons, List.map_take, List.map_drop]
    · rcases List.mem_append.1 hx with hx | hx
      · exact h2 x (List.mem_of_mem_take hx)
      · rcases List.mem_cons.1 hx with rfl | hx
        · exact hd.1
        · exact h2 x (List.mem_of_mem_drop hx)
    · have h4 := (h3.append m hd.2 hl).upd0 (i := setI B a c xs) (its := ds.flatMap rIts ++ rIts d) m5 h5 hf
      refine h4.perm (List.Perm.cons _ ?_)
      have e : ds.flatMap rIts = (ds.take (lbT (tx xs) t.1.1)).flatMap rIts ++ (ds.drop (lbT (tx xs) t.1.1)).flatMap rIts := by rw [← List.flatMap_append, List.take_append_drop]
      rw [e, List.flatMap_append, List.flatMap_cons, List.append_assoc]
      exact List.Perm.append_left _ List.perm_append_comm
theorem rms_uQ {xs : List Wv} {ds : List RD} (h : xs.map (fun x => (x.2.1, x.2.2)) = ds.map (fun d => (d.s.val, d.b.val))) (f : Wv → Rm × Value × Value) (hf : ∀ x, f x = (x.1.2, sS x.2.1, sS x.2.2)) : uQ ds (rmsC (xs.map f)) := by
  intro n d hd
  have h1 : (xs.map (fun x => (x.2.1, x.2.2)))[n]? = some (d.s.val, d.b.val) := by rw [h, List.getElem?_map, hd]; rfl
  rw [List.getElem?_map] at h1
  obtain ⟨x, hx, e⟩ : ∃ x, xs[n]? = some x ∧ (x.2.1, x.2.2) = (d.s.val, d.b.val) := by
    cases hh : xs[n]? with
    | none => rw [hh] at h1; cases h1
    | some x => rw [hh] at h1; exact ⟨x, rfl, Option.some.inj h1⟩
  have h2 : (xs.map f)[n]? = some (f x) := by rw [List.getElem?_map, hx]; rfl
  have g : ∀ j, j < 3 → (rmsC (xs.map f))[n * 3 + j]? = (rmC (f x))[j]? := fun j hj => flat_get (f := rmC) rmC_length h2 hj
  have g0 := g 0 (by omega); have g1 := g 1 (by omega); have g2 := g 2 (by omega)
  rw [hf] at g0 g1 g2
  injection e with e1 e2
  rw [e1, e2] at g0 g1 g2
  exact ⟨⟨_, g0⟩, g1, g2⟩
/-- the rules' list has been laid -/
theorem TF.fin {S : Nat → Prop} {Lf : Nat} {a7 : Option Addr} {c7 : Nat} {f : Wv → Rm × Value × Value} (h : TF L w B a c xs) (m : Mod S w w') (hs : ∀ b, L ≤ b → b < w.heap.size → ¬ S b) (hn : xs.length ≤ 1024) (hf : ∀ x, f x = (x.1.2, sS x.2.1, sS x.2.2))
    (hO : Mine.Own w' 38 3 a7 xs.length c7 (rmsC (xs.map f))) (ha : ∀ b, blk a7 = some b → w.heap.size ≤ b) (hl : Lf ≤ L) : ∃ ds, PrO w' Lf ⟨a7, xs.length, c7⟩ ds := by
  obtain ⟨ds, h1, h2, h3⟩ := h
  have hlen : ds.length = xs.length := by have := congrArg List.length h1; simpa using this.symm
  have h4 := h3.sub (List.sublist_cons_self ..)
  have h5 := h4.mod m (fun i hi b hb => hs b (h4.lo i hi b hb) (h4.lt hi b hb))
  refine ⟨ds, h2, hlen, hn, Fam.mono ?_ hl⟩
  have hsz := h3.sz
  refine (h5.snoc (j := uE ⟨a7, xs.length, c7⟩ ds) ⟨_, hO, rms_uQ h1 f hf⟩ (fun i hi b hb hb' => ?_) (fun b hb => Nat.le_trans hsz (ha b hb))).perm ?_
  · have := h4.lt hi b hb
    have := ha b hb'
    omega
  · exact List.perm_append_comm (l₁ := ds.flatMap rIts) (l₂ := [uE ⟨a7, xs.length, c7⟩ ds])
end
end Go.Proofs.YtphgglnkdfndiaaDoor
