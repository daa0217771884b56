import Derived.Test.YtgplagdehfhffaaDoorRune
import Derived.Test.YtgplagdehfhffaaDoorLexQuoteW
import Derived.Test.YtgplagdehfhffaaDoorOrdA
namespace Go.Proofs.YtgplagdehfhffaaDoor
open Go Go.RowKit Go.Mine
set_option maxHeartbeats 4000000
set_option maxRecDepth 100000
set_option linter.unusedVariables false

theorem ret_int {k : IntKind} {a b : Int} (h : a = b) : Ending.returned (.int k a) = .returned (.int k b) := by rw [h]
def sxO : Option Nat → Int
  | some v => v
  | none => -1
theorem sxI_eq (c : UInt8) : sxI c = sxO (sx c) := by unfold sxI sxO; cases sx c <;> rfl
def sixN (n : Nat) : Int := if 48 ≤ n ∧ n ≤ 57 then (n : Int) - 48 else if 97 ≤ n ∧ n ≤ 102 then (n : Int) - 87 else -1
theorem sx_six (c : UInt8) : sxI c = sixN c.toNat := by
  have h : ∀ n : Fin 256, sxI (UInt8.ofNat n.1) = sixN (UInt8.ofNat n.1).toNat := by decide +kernel
  have := h ⟨c.toNat, c.toNat_lt⟩
  simpa using this
theorem six_any (n : Nat) (w : World) (hn : n < 256) :
    Calls Tryd.prog 156 #[.int .u8 n] w fun e w' => e = .returned (.int .i64 (sixN n)) ∧ w = w' := by
  have hc : (48 ≤ n ∧ n ≤ 57 ∧ sixN n = (n : Int) - 48) ∨ (97 ≤ n ∧ n ≤ 102 ∧ sixN n = (n : Int) - 87) ∨ ((n < 48 ∨ (57 < n ∧ n < 97) ∨ 102 < n) ∧ sixN n = -1) := by
    unfold sixN
    by_cases h1 : 48 ≤ n ∧ n ≤ 57
    · rw [if_pos h1]; exact .inl ⟨h1.1, h1.2, rfl⟩
    · rw [if_neg h1]
      by_cases h2 : 97 ≤ n ∧ n ≤ 102
      · rw [if_pos h2]; exact .inr (.inl ⟨h2.1, h2.2, rfl⟩)
      · rw [if_neg h2]; exact .inr (.inr ⟨by omega, rfl⟩)
  rcases hc with ⟨h1, h2, h3⟩ | ⟨h1, h2, h3⟩ | ⟨h1, h3⟩
  · rw [h3]
    clear h3
    go_enter Tryd.func156, Tryd.ntmps156
    go_wp2
    go_ret
    exact ⟨ret_int (by omega), rfl⟩
  · rw [h3]
    clear h3
    go_enter Tryd.func156, Tryd.ntmps156
    go_wp2
    go_ret
    exact ⟨ret_int (by omega), rfl⟩
  · rw [h3]
    clear h3
    rcases h1 with h1 | ⟨h1, h2⟩ | h1
    all_goals
      go_enter Tryd.func156, Tryd.ntmps156
      go_wp2
      go_ret
      exact ⟨rfl, rfl⟩
theorem ret_slb {s t : ByteArray} {a b : Int} {x y : Bool} (h1 : s = t) (h2 : a = b) (h3 : x = y) : Ending.returned (.tuple #[.string s, .int .i64 a, .bool x]) = .returned (.tuple #[.string t, .int .i64 b, .bool y]) := by rw [h1, h2, h3]

theorem refQuote_any (s : ByteArray) (i : Nat) (w : World) (hi : i < s.size) (hs : s.size < 2 ^ 30) :
    Calls Tryd.prog 139 #[.string s, .int .i64 i] w fun e w' => e = .returned (.tuple #[.string ⟨(quoteE s (i + 1)).1.toArray⟩, .int .i64 (quoteE s (i + 1)).2.1, .bool (quoteE s (i + 1)).2.2]) ∧ Mod (fun _ => False) w w' := by
  have HSIX := Lib.hid six_any
  have hr := quoteE_res s (i + 1)
  generalize quoteE s (i + 1) = r at *
  have HR0 := Lib.hid hr; clear hr
  have HI := Lib.hid hi
  go_enter Tryd.func139, Tryd.ntmps139
  go_wp2
  go_loopw [1, 7] (fun at_ b wr => ∃ (k : Nat) (a : Option Addr) (c : Nat) (acc : List UInt8), at_ = .int .i64 k ∧ b = .slice a acc.length c ∧ k ≤ s.size ∧ acc.length ≤ k ∧
    Hid (Mine.Own wr 5 1 a acc.length c (bts acc) ∧ (∀ b, blk a = some b → w.heap.size ≤ b) ∧ Mod (fun _ => False) w wr) ∧ Hid (QRes s k acc r)) (fun at_ _ _ => s.size - (intOf at_).toNat)
  case atStart => exact ⟨i + 1, none, 0, [], by go_num, rfl, hi, by simp, Lib.hid ⟨Mine.Own.nil _ _ _, by simp, Mod.refl _ w⟩, HR0⟩
  case round =>
    obtain ⟨k, a, c0, acc, rfl, rfl, hk, hacc, hW, hR⟩ := hrel
    have hO := Lib.hid hW.out.1
    have hF := Lib.hid hW.out.2.1
    have hM := Lib.hid hW.out.2.2
    clear hW
    have fin : Hid (∀ r', r = r' → r = r') := fun r' e => e
    have HNX : Hid (∀ (w3 : World) (a3 : Option Addr) (c3 : Nat) (us : List UInt8) {n : Nat} {xs : List Value}, (n = (acc ++ us).length ∧ xs = bts us) → Mine.Own w3 5 1 a3 n c3 (bts acc ++ xs) → Grow wr a w3 a3 →
        Hid (Mine.Own w3 5 1 a3 (acc ++ us).length c3 (bts (acc ++ us)) ∧ (∀ b, blk a3 = some b → w.heap.size ≤ b) ∧ Mod (fun _ => False) w w3)) := by
      rintro w3 a3 c3 us n xs ⟨rfl, rfl⟩ h1 h2
      refine ⟨by rw [bts_append]; exact h1, ?_, ?_⟩
      · intro b hb
        rcases h2.pos with e | ⟨b', e, hb'⟩
        · rw [e] at hb; exact hF.out b hb
        · rw [e] at hb; cases hb; have := hM.out.size; omega
      · exact hM.out.step h2.mod (fun i hi hs => by have := hF.out i hs; omega)
    by_cases hlt : k < s.size
    · have hQ := Lib.hid (fun h => hR.out.quote hlt h)
      have hE0 := Lib.hid (fun h h2 => hR.out.esc0 hlt h h2)
      have hE1 := Lib.hid (fun h h2 => hR.out.esc1 hlt h h2)
      have hON := Lib.hid (fun h1 h2 h3 => hR.out.one hlt h1 h2 h3)
      have hBd := Lib.hid (fun h1 h2 h3 h4 => hR.out.bad hlt h1 h2 h3 h4)
      have hRu := Lib.hid (fun h1 h2 h3 h4 => hR.out.rune hlt h1 h2 h3 h4)
      obtain ⟨c, hc⟩ : ∃ c, s[k] = c := ⟨_, rfl⟩
      rw [hc] at hQ hE0 hE1 hON hBd hRu
      by_cases h34 : c = 34
      · subst h34
        have hq := hQ.out (by trivial)
        have hcv := run_bytes_str (P := Tryd.prog) (w := wr) (src := 22) (dst := 9) (e := 5) (by kernel_rfl) (by kernel_rfl) (by kernel_rfl) c0 hO.out.rd
        clear hE0 hE1 hON hBd hRu
        have HQ2 := Lib.hid hq; clear hq
        go_wp2
        go_ret3
        exact ⟨by rw [HQ2.out]; exact ret_slb rfl (by simp) rfl, hM.out⟩
      · by_cases h92 : c = 92
        · subst h92
          clear hQ hON hBd hRu
          by_cases hk1 : k + 1 < s.size
          · have hd : s.data.toList.drop (k + 1) = s[k + 1] :: s.data.toList.drop (k + 2) := List.drop_eq_getElem_cons (by simpa using hk1)
            rw [hd] at hE0 hE1
            clear hd
            obtain ⟨d, hdd⟩ : ∃ d, s[k + 1] = d := ⟨_, rfl⟩
            rw [hdd] at hE0 hE1
            by_cases d34 : d = 34
            · subst d34
              have HR2 := Lib.hid (hE1.out (by trivial) (by show (1 : Nat) ≠ 0; decide))
              go_wp2_with (first
                | (go_at_call 156; refine (HSIX.out _ _ (by omega)).mono ?_; rintro e w' ⟨rfl, rfl⟩)
                | (go_at_call 157; refine (HRU.out _).mono ?_; rintro e w' ⟨rfl, rfl⟩)
                | (at_builtin; refine wpL_appendN (us := [_]) rfl (.tmp 42) (.tmp 44) 22 rfl ti24 rfl hO.out rfl rfl rfl (by omega) (by unfold maxLen; omega) ?_; intro a3 c3 w3 hO3 hG3 _
                   have HO3 := Lib.hid hO3; have HG3 := Lib.hid hG3; clear hO3 hG3))
              go_roundw
              case rel => exact ⟨k + 1 + 1, a3, c3, acc ++ [34], by go_num, by simp, by omega, by simp; omega, HNX.out _ _ _ [34] (by simp; rfl) HO3.out HG3.out, HR2⟩
              case measure => simp [intOf]; omega
            by_cases d92 : d = 92
            · subst d92
              have HR2 := Lib.hid (hE1.out (by trivial) (by show (1 : Nat) ≠ 0; decide))
              go_wp2_with (first
                | (go_at_call 156; refine (HSIX.out _ _ (by omega)).mono ?_; rintro e w' ⟨rfl, rfl⟩)
                | (go_at_call 157; refine (HRU.out _).mono ?_; rintro e w' ⟨rfl, rfl⟩)
                | (at_builtin; refine wpL_appendN (us := [_]) rfl (.tmp 42) (.tmp 44) 22 rfl ti24 rfl hO.out rfl rfl rfl (by omega) (by unfold maxLen; omega) ?_; intro a3 c3 w3 hO3 hG3 _
                   have HO3 := Lib.hid hO3; have HG3 := Lib.hid hG3; clear hO3 hG3))
              go_roundw
              case rel => exact ⟨k + 1 + 1, a3, c3, acc ++ [92], by go_num, by simp, by omega, by simp; omega, HNX.out _ _ _ [92] (by simp; rfl) HO3.out HG3.out, HR2⟩
              case measure => simp [intOf]; omega
            by_cases d110 : d = 110
            · subst d110
              have HR2 := Lib.hid (hE1.out (by trivial) (by show (1 : Nat) ≠ 0; decide))
              go_wp2_with (first
                | (go_at_call 156; refine (HSIX.out _ _ (by omega)).mono ?_; rintro e w' ⟨rfl, rfl⟩)
                | (go_at_call 157; refine (HRU.out _).mono ?_; rintro e w' ⟨rfl, rfl⟩)
                | (at_builtin; refine wpL_appendN (us := [_]) rfl (.tmp 50) (.tmp 51) 22 rfl ti24 rfl hO.out rfl rfl rfl (by omega) (by unfold maxLen; omega) ?_; intro a3 c3 w3 hO3 hG3 _
                   have HO3 := Lib.hid hO3; have HG3 := Lib.hid hG3; clear hO3 hG3))
              go_roundw
              case rel => exact ⟨k + 1 + 1, a3, c3, acc ++ [10], by go_num, by simp, by omega, by simp; omega, HNX.out _ _ _ [10] (by simp; rfl) HO3.out HG3.out, HR2⟩
              case measure => simp [intOf]; omega
            by_cases d116 : d = 116
            · subst d116
              have HR2 := Lib.hid (hE1.out (by trivial) (by show (1 : Nat) ≠ 0; decide))
              go_wp2_with (first
                | (go_at_call 156; refine (HSIX.out _ _ (by omega)).mono ?_; rintro e w' ⟨rfl, rfl⟩)
                | (go_at_call 157; refine (HRU.out _).mono ?_; rintro e w' ⟨rfl, rfl⟩)
                | (at_builtin; refine wpL_appendN (us := [_]) rfl (.tmp 57) (.tmp 58) 22 rfl ti24 rfl hO.out rfl rfl rfl (by omega) (by unfold maxLen; omega) ?_; intro a3 c3 w3 hO3 hG3 _
                   have HO3 := Lib.hid hO3; have HG3 := Lib.hid hG3; clear hO3 hG3))
              go_roundw
              case rel => exact ⟨k + 1 + 1, a3, c3, acc ++ [9], by go_num, by simp, by omega, by simp; omega, HNX.out _ _ _ [9] (by simp; rfl) HO3.out HG3.out, HR2⟩
              case measure => simp [intOf]; omega
            obtain ⟨n1, hn1⟩ : ∃ n1, s[k + 1].toNat = n1 := ⟨_, rfl⟩
            have hd1 : d.toNat = n1 := by rw [← hdd, hn1]
            have e34 : ((n1 : Int) == 34) = false := by have : n1 ≠ 34 := fun h => d34 (by rw [← UInt8.toNat_inj, hd1, h]; rfl); simp; omega
            have e92 : ((n1 : Int) == 92) = false := by have : n1 ≠ 92 := fun h => d92 (by rw [← UInt8.toNat_inj, hd1, h]; rfl); simp; omega
            have e110 : ((n1 : Int) == 110) = false := by have : n1 ≠ 110 := fun h => d110 (by rw [← UInt8.toNat_inj, hd1, h]; rfl); simp; omega
            have e116 : ((n1 : Int) == 116) = false := by have : n1 ≠ 116 := fun h => d116 (by rw [← UInt8.toNat_inj, hd1, h]; rfl); simp; omega
            by_cases d120 : d = 120
            · subst d120
              have hn120 : n1 = 120 := by rw [← hd1]; rfl
              subst hn120
              clear d34 d92 d110 d116 e34 e92 e110 e116 hd1 hdd
              by_cases hk3 : k + 3 < s.size
              · have hd2 : s.data.toList.drop (k + 2) = s[k + 2] :: s[k + 3] :: s.data.toList.drop (k + 4) := by
                  rw [List.drop_eq_getElem_cons (i := k + 2) (by simpa using (show k + 2 < s.size by omega)), List.drop_eq_getElem_cons (i := k + 3) (by simpa using hk3)]; rfl
                rw [hd2] at hE0 hE1
                clear hd2
                obtain ⟨a1, ha1⟩ : ∃ a1, s[k + 2] = a1 := ⟨_, rfl⟩
                obtain ⟨b1, hb1⟩ : ∃ b1, s[k + 3] = b1 := ⟨_, rfl⟩
                rw [ha1, hb1] at hE0 hE1
                obtain ⟨na, hna⟩ : ∃ na, s[k + 2].toNat = na := ⟨_, rfl⟩
                obtain ⟨nb, hnb⟩ : ∃ nb, s[k + 3].toNat = nb := ⟨_, rfl⟩
                have hla : na < 256 := by rw [← hna]; exact s[k + 2].toNat_lt
                have hlb : nb < 256 := by rw [← hnb]; exact s[k + 3].toNat_lt
                have hxa : sixN na = sxI a1 := by rw [sx_six, ← ha1, hna]
                have hxb : sixN nb = sxI b1 := by rw [sx_six, ← hb1, hnb]
                have hE : ∀ rest, escL (120 :: a1 :: b1 :: rest) = match sx a1, sx b1 with
                  | some x, some y => (UInt8.ofNat (16 * x + y), 3)
                  | _, _ => (0, 0) := fun _ => rfl
                rw [hE] at hE0 hE1
                clear hE
                have hs1 := fun v (h : sx a1 = some v) => sx_lt h
                have hs2 := fun v (h : sx b1 = some v) => sx_lt h
                rw [sxI_eq] at hxa hxb
                generalize sx a1 = xa at *
                generalize sx b1 = xb at *
                have HXA : Hid (∀ w, Calls Tryd.prog 156 #[.int .u8 na] w fun e w' => e = .returned (.int .i64 (sxO xa)) ∧ w = w') := fun w => by rw [← hxa]; exact six_any na w hla
                have HXB : Hid (∀ w, Calls Tryd.prog 156 #[.int .u8 nb] w fun e w' => e = .returned (.int .i64 (sxO xb)) ∧ w = w') := fun w => by rw [← hxb]; exact six_any nb w hlb
                clear hxa hxb ha1 hb1 HSIX
                cases xa with
                | none =>
                  simp only [sxO] at HXA HXB
                  have HR2 := Lib.hid (hE0.out (by trivial) rfl)
                  clear hE0 hE1 hs1 hs2 HXB
                  go_wp2_with (first
                    | (go_at_call 156; refine (HXA.out _).mono ?_; rintro e w' ⟨rfl, rfl⟩))
                  go_ret3
                  exact ⟨by rw [HR2.out]; first | done | rfl, hM.out⟩
                | some x =>
                  simp only [sxO] at HXA
                  have hx := hs1 x rfl
                  cases xb with
                  | none =>
                    simp only [sxO] at HXB
                    have HR2 := Lib.hid (hE0.out (by trivial) rfl)
                    clear hE0 hE1 hs1 hs2
                    go_wp2_with fail
                    refine (HXA.out _).mono ?_
                    rintro e w' ⟨rfl, rfl⟩
                    go_wp2_with fail
                    refine (HXB.out _).mono ?_
                    rintro e w' ⟨rfl, rfl⟩
                    go_wp2_with fail
                    go_ret3
                    exact ⟨by rw [HR2.out]; first | done | rfl, hM.out⟩
                  | some y =>
                    simp only [sxO] at HXB
                    have hy := hs2 y rfl
                    have HR2 := Lib.hid (hE1.out (by trivial) (by simp only; omega))
                    clear hE0 hE1 hs1 hs2
                    go_wp2_with fail
                    refine (HXA.out _).mono ?_
                    rintro e w' ⟨rfl, rfl⟩
                    go_wp2_with fail
                    refine (HXB.out _).mono ?_
                    rintro e w' ⟨rfl, rfl⟩
                    go_wp2_with fail
                    refine wp_region_ord (fun _ => True) [(0, 0), (0, 1), (0, 2), (0, 3), (0, 4), (0, 7), (0, 8), (0, 9), (0, 10), (3, 5), (0, 6), (3, 11), (0, 12), (0, 13), (3, 14), (3, 15), (0, 16)] (by kernel_rfl) (by kernel_rfl) ?_
                    go_wp2_with (first
                      | (refine ord_pure rfl rfl rfl (fun K hK => ?_); go_big_quiet_op; refine hK _ ?_; clear hK K)
                        | (refine ord_skip rfl rfl ?_; simp only [Act.put, List.setIfInBounds_toArray, List.set_cons_zero, List.set_cons_succ])
                        | (refine ord_held rfl rfl rfl (True.intro) (fun K hK => ?_); apply Exists.intro; refine ⟨fun w' hs => ?_, hK _ ?_⟩; (revert hs; dsimp only; (try simp only [and_imp]); intros; go_simp; rfl); clear hK K)
                        | (refine ord_keep rfl rfl (True.intro) (fun K hK => ?_))
                        | (refine ord_drop rfl rfl (fun K hK => ?_))
                        | (refine ord_nil ?_))
                    refine (HXA.out _).mono ?_
                    rintro e w' ⟨rfl, rfl⟩
                    go_wp2_with (first
                      | (refine ord_pure rfl rfl rfl (fun K hK => ?_); go_big_quiet_op; refine hK _ ?_; clear hK K)
                        | (refine ord_skip rfl rfl ?_; simp only [Act.put, List.setIfInBounds_toArray, List.set_cons_zero, List.set_cons_succ])
                        | (refine ord_held rfl rfl rfl (True.intro) (fun K hK => ?_); apply Exists.intro; refine ⟨fun w' hs => ?_, hK _ ?_⟩; (revert hs; dsimp only; (try simp only [and_imp]); intros; go_simp; rfl); clear hK K)
                        | (refine ord_keep rfl rfl (True.intro) (fun K hK => ?_))
                        | (refine ord_drop rfl rfl (fun K hK => ?_))
                        | (refine ord_nil ?_))
                    refine (HXB.out _).mono ?_
                    rintro e w' ⟨rfl, rfl⟩
                    go_wp2_with (first
                      | (refine ord_drop rfl rfl (fun K hK => ?_); refine wpO_append (.tmp 88) (.tmp 102) 22 22 rfl ti24 rfl (hO.out.alloc _).drew rfl (Src.ofRd ti24.ht 1 1 (Rd.dr (Rd.news wr [_] 5)) (by simp) (by simp [Value.oneCell'])) (by omega) (by unfold maxLen; omega) ?_; intro a3 c3 w3 hO3 hG3 _
                         have HO3 := Lib.hid hO3; have HG3 := Lib.hid (hG3.pre0 ((Mod.refl _ wr).alloc _).drew); clear hO3 hG3; refine hK _ _ ?_; clear hK K)
                      | (refine ord_pure rfl rfl rfl (fun K hK => ?_); go_big_quiet_op; refine hK _ ?_; clear hK K)
                        | (refine ord_skip rfl rfl ?_; simp only [Act.put, List.setIfInBounds_toArray, List.set_cons_zero, List.set_cons_succ])
                        | (refine ord_held rfl rfl rfl (True.intro) (fun K hK => ?_); apply Exists.intro; refine ⟨fun w' hs => ?_, hK _ ?_⟩; (revert hs; dsimp only; (try simp only [and_imp]); intros; go_simp; rfl); clear hK K)
                        | (refine ord_keep rfl rfl (True.intro) (fun K hK => ?_))
                        | (refine ord_drop rfl rfl (fun K hK => ?_))
                        | (refine ord_nil ?_))
                    go_wp2
                    go_roundw
                    case rel => exact ⟨k + 1 + 3, a3, c3, acc ++ [UInt8.ofNat (16 * x + y)], by go_num, by simp, by omega, by simp; omega, HNX.out _ _ _ [UInt8.ofNat (16 * x + y)] (by simp [bts]; omega) HO3.out HG3.out, HR2⟩
                    case measure => simp [intOf]; omega
              · have HR2 := Lib.hid (hE0.out (by trivial) (by
                  have hl : (s.data.toList.drop (k + 2)).length ≤ 1 := by rw [List.length_drop, ← Lib.size_eq]; omega
                  rcases hdr : s.data.toList.drop (k + 2) with _ | ⟨a1, _ | ⟨b1, rr⟩⟩
                  · rfl
                  · rfl
                  · rw [hdr] at hl; simp at hl))
                clear hE0 hE1
                go_wp2
                go_ret3
                exact ⟨by rw [HR2.out]; first | done | rfl, hM.out⟩
            · have e120 : ((n1 : Int) != 120) = true := by have : n1 ≠ 120 := fun h => d120 (by rw [← UInt8.toNat_inj, hd1, h]; rfl); simp; omega
              have hE : ∀ rest, (escL (d :: rest)).2 = 0 := fun rest => by
                simp only [escL]; rw [if_neg d34, if_neg d92, if_neg d110, if_neg d116, if_pos d120]
              have HR2 := Lib.hid (hE0.out (by trivial) (hE _))
              clear hE0 hE1 hE d34 d92 d110 d116 d120 hd1 hdd
              go_wp2
              go_ret3
              exact ⟨by rw [HR2.out]; first | done | rfl, hM.out⟩
          · have HR2 := Lib.hid (hE0.out (by trivial) (by rw [List.drop_eq_nil_of_le (by rw [← Lib.size_eq]; omega)]; rfl))
            clear hE0 hE1
            go_wp2
            go_ret3
            exact ⟨by rw [HR2.out]; first | done | rfl, hM.out⟩
        · obtain ⟨n0, hn0⟩ : ∃ n0, s[k].toNat = n0 := ⟨_, rfl⟩
          have hn1 : c.toNat = n0 := by rw [← hc, hn0]
          have e34 : ((n0 : Int) == 34) = false := by have : n0 ≠ 34 := fun h => h34 (by rw [← UInt8.toNat_inj, hn1, h]; rfl); simp; omega
          have e92 : ((n0 : Int) == 92) = false := by have : n0 ≠ 92 := fun h => h92 (by rw [← UInt8.toNat_inj, hn1, h]; rfl); simp; omega
          have HH34 := Lib.hid h34; have HH92 := Lib.hid h92
          clear hQ hE0 hE1
          rw [hn1] at hON hBd hRu
          by_cases hpr : 32 ≤ n0 ∧ n0 ≤ 126
          · obtain ⟨hp1, hp2⟩ := hpr
            have HR2 := Lib.hid (hON.out h34 h92 ⟨hp1, hp2⟩)
            have hx1 := ext1 s hlt
            rw [hc] at hx1
            have hxs : (s.extract k (k + 1)).size = 1 := by rw [Lib.size_eq, hx1]; rfl
            have HX : Hid (byteCells (s.extract k (k + 1)) = bts [c]) := by unfold Hid; rw [bts_byteCells, hx1]
            have HXS := Lib.hid hxs
            clear hBd hRu hON h34 h92 hn1 hc hx1 hxs
            go_wp2_with (first
              | (at_builtin; refine wpL_append rfl (.tmp 118) (.tmp 124) 22 9 rfl ti24 rfl hO.out rfl (Src.ofString _ (by kernel_rfl) _) (by rw [HXS.out]; omega) (by rw [HXS.out]; unfold maxLen; omega) ?_; intro a3 c3 w3 hO3 hG3 _
                 rw [HXS.out] at hO3
                 have HO3 := Lib.hid hO3; have HG3 := Lib.hid hG3; clear hO3 hG3))
            go_roundw
            case rel => exact ⟨k + 1, a3, c3, acc ++ [c], by go_num, by rw [show min (k + 1) s.size - k = 1 by omega]; simp, by omega, by simp; omega, HNX.out _ _ _ [c] ⟨by simp, HX.out⟩ HO3.out HG3.out, HR2⟩
            case measure => simp [intOf]; omega
          · have hru := runeAt_any s k wr hlt (by omega)
            have hre := rune_eq (s := s) (i := k)
            have hwd := decode_width s k hlt
            have HRU : Hid (∀ w, Calls Tryd.prog 157 #[.string s, .int .i64 k] w fun e w' => e = .returned (.int .i64 (runeL s k)) ∧ w = w') := fun w => by rw [hre]; exact runeAt_any s k w hlt (by omega)
            have hnp : n0 < 32 ∨ 126 < n0 := by omega
            unfold runeL at HRU
            clear hru hre hON
            by_cases hd : (Utf8.decode s k).1 < 128 ∨ ((Utf8.decode s k).1 = 65533 ∧ (Utf8.decode s k).2 = 1)
            · have HR2 := Lib.hid (hBd.out h34 h92 hpr hd)
              rw [if_pos hd] at HRU
              clear hBd hRu h34 h92 hn1 hc hd hpr hwd
              rcases hnp with hnp | hnp
              all_goals
                go_wp2_with (first
                  | (go_at_call 157; refine (HRU.out _).mono ?_; rintro e w' ⟨rfl, rfl⟩))
                go_ret3
                exact ⟨by rw [HR2.out]; first | done | rfl, hM.out⟩
            · have hR2 := hRu.out h34 h92 hpr hd
              rw [if_neg hd] at HRU
              generalize (Utf8.decode s k).2 = m at *
              have HR2 := Lib.hid hR2
              have hex : (s.extract k (k + m)).data.toList = (s.data.toList.drop k).take m := by rw [ext_data, Nat.add_sub_cancel_left]
              have hexs : (s.extract k (k + m)).size = m := by
                rw [Lib.size_eq, hex, List.length_take, List.length_drop, ← Lib.size_eq]; omega
              have HXS := Lib.hid hexs
              have HX : Hid (byteCells (s.extract k (k + m)) = bts ((s.data.toList.drop k).take m)) := by unfold Hid; rw [bts_byteCells, hex]
              have HLE : Hid (((s.data.toList.drop k).take m).length = m) := by unfold Hid; rw [← hex, ← Lib.size_eq, hexs]
              generalize (s.data.toList.drop k).take m = piece at *
              have hmb : ((m : Int) == 0) = false := by simp; omega
              clear hBd hRu h34 h92 hn1 hc hd hpr hR2 hex hexs
              rcases hnp with hnp | hnp
              all_goals
                go_wp2_with (first
                  | (go_at_call 157; refine (HRU.out _).mono ?_; rintro e w' ⟨rfl, rfl⟩)
                  | (at_builtin; refine wpL_append rfl (.tmp 118) (.tmp 124) 22 9 rfl ti24 rfl hO.out rfl (Src.ofString _ (by kernel_rfl) _) (by rw [HXS.out]; omega) (by rw [HXS.out]; unfold maxLen; omega) ?_; intro a3 c3 w3 hO3 hG3 _
                     rw [HXS.out] at hO3
                     have HO3 := Lib.hid hO3; have HG3 := Lib.hid hG3; clear hO3 hG3))
                go_roundw
                case rel => exact ⟨k + m, a3, c3, acc ++ piece, by go_num, by rw [List.length_append, HLE.out], by omega, by rw [List.length_append, HLE.out]; omega, HNX.out _ _ _ piece ⟨by rw [List.length_append, HLE.out], HX.out⟩ HO3.out HG3.out, HR2⟩
                case measure => simp [intOf]; omega
    · obtain rfl : k = s.size := by omega
      have HR2 := Lib.hid (hR.out.out (by omega))
      go_wp2
      go_ret3
      exact ⟨by rw [HR2.out]; first | done | rfl, hM.out⟩
end Go.Proofs.YtgplagdehfhffaaDoor
