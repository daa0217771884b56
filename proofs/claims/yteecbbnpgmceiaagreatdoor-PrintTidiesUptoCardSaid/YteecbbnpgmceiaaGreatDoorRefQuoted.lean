import Derived.Test.YteecbbnpgmceiaaGreatDoorBuQ
namespace Go.Proofs.YteecbbnpgmceiaaGreatDoor
open Go Go.RowKit Go.Mine
set_option maxHeartbeats 400000
set_option maxRecDepth 100000
set_option linter.unusedVariables false

theorem figure_any (n : Nat) (w : World) (hn : n < 16) :
    Calls Tryz.prog 199 #[.int .i64 n] w fun e w' => e = .returned (.int .u8 (fig (UInt8.ofNat n)).toNat) ∧ w = w' := by
  have hf : (fig (UInt8.ofNat n)).toNat = if n < 10 then 48 + n else 87 + n := by
    have : ∀ a : Fin 16, (fig (UInt8.ofNat a.1)).toNat = if a.1 < 10 then 48 + a.1 else 87 + a.1 := by decide +kernel
    exact this ⟨n, hn⟩
  rw [hf]
  have HF := Lib.hid hf; clear hf
  by_cases h : n < 10
  · rw [if_pos h]
    go_enter Tryz.func199, Tryz.ntmps199
    go_wp2
    go_ret
    exact ⟨by show Ending.returned (.int .u8 _) = _; congr 2, rfl⟩
  · rw [if_neg h]
    go_enter Tryz.func199, Tryz.ntmps199
    go_wp2
    go_ret
    refine ⟨?_, rfl⟩
    show Ending.returned (.int .u8 (97 + (n:Int) - 10)) = _
    congr 2
    omega

theorem conv_snoc (a : Option Addr) (c : Nat) (bs : List UInt8) (w : World) (h : Rd w a (bts bs ++ [.int .u8 34])) :
    (convert 34 9 (.slice a (bs.length + 1) c)).run Tryz.prog w = .ok (.string ⟨(bs ++ [34]).toArray⟩) w := by
  have := run_bytes_str (P := Tryz.prog) (src := 34) (dst := 9) (e := 5) (w := w) (a := a) (l := bs ++ [34]) (by kernel_rfl) (by kernel_rfl) (by kernel_rfl) c (by rw [bts_append]; exact h)
  simpa using this
set_option maxHeartbeats 1600000 in
theorem refQuoted_any (s : ByteArray) (w : World) (hs : s.size < 2 ^ 30) :
    Calls Tryz.prog 171 #[.string s] w fun e w' => e = .returned (.string ⟨(quotedL s.data.toList).toArray⟩) ∧ Mod (fun _ => False) w w' := by
  have H0 := Lib.hid (Own.made w 5 1 #[.int .u8 34] 1 1 (Nat.le_refl _) (by decide) rfl)
  have M0 := Lib.hid ((Mod.refl (fun _ => False) w).alloc (.cells #[.int .u8 34] 5))
  go_enter Tryz.func171, Tryz.ntmps171
  go_wp2
  go_loopw [3, 4] (fun t i wr => ∃ (k : Nat) (a : Option Addr) (c : Nat) (bs : List UInt8), t = .slice a bs.length c ∧ i = .int .i64 k ∧ k ≤ s.size ∧ Hid (bs = 34 :: (s.data.toList.take k).flatMap q1) ∧ bs.length < 2 ^ 33 ∧
    Hid (Own wr 5 1 a bs.length c (bts bs)) ∧ Hid (∀ b, blk a = some b → w.heap.size ≤ b) ∧ Hid (Mod (fun _ => False) w wr)) (fun _ i _ => s.size - (intOf i).toNat)
  case atStart => exact ⟨0, some ⟨w.heap.size, 0, none⟩, 1, [34], rfl, rfl, by omega, rfl, by decide, H0, by intro b h; simp at h; omega, M0⟩
  case round =>
    obtain ⟨k, a, c1, bs, rfl, rfl, hk, hQ, hbl, hO, hF, hM⟩ := hrel
    by_cases hlt : k < s.size
    · have hstep : (s.data.toList.take (k + 1)).flatMap q1 = (s.data.toList.take k).flatMap q1 ++ q1 s[k] := by
        rw [List.take_succ_eq_append_getElem (by simpa using hlt), List.flatMap_append]
        simp; rfl
      obtain ⟨c, hc⟩ : ∃ c, s[k] = c := ⟨_, rfl⟩
      rw [hc] at hstep
      have hlb : bs.length ≤ 4 * k + 1 := by
        have := q1s_len (s.data.toList.take k)
        rw [hQ.out, List.length_cons]
        simp only [List.length_take] at this
        omega
      have HREL : Hid (∀ (w3 : World) (a3 : Option Addr) (c3 : Nat) (us : List Value) (m : Nat) (v i : Value), us = bts (q1 c) → m = us.length → Own w3 5 1 a3 (bs.length + m) c3 (bts bs ++ us) → Grow wr a w3 a3 → v = .slice a3 (bs.length + m) c3 → i = .int .i64 ((k + 1 : Nat) : Int) →
          ∃ (k : Nat) (a : Option Addr) (c : Nat) (bs : List UInt8), v = .slice a bs.length c ∧ i = .int .i64 k ∧ k ≤ s.size ∧ Hid (bs = 34 :: (s.data.toList.take k).flatMap q1) ∧ bs.length < 2 ^ 33 ∧
            Hid (Own w3 5 1 a bs.length c (bts bs)) ∧ Hid (∀ b, blk a = some b → w.heap.size ≤ b) ∧ Hid (Mod (fun _ => False) w w3)) := by
        rintro w3 a3 c3 us m v i rfl rfl hO3 hG3 rfl rfl
        have := q1_len c
        have e : (bs ++ q1 c).length = bs.length + (bts (q1 c)).length := by simp
        refine ⟨k + 1, a3, c3, bs ++ q1 c, by rw [e], rfl, hlt, by unfold Hid; rw [hstep, hQ.out]; simp, by simp only [List.length_append]; omega, by unfold Hid; rw [e, bts_append]; exact hO3, ?_, ?_⟩
        · intro b hb
          rcases hG3.pos with e | ⟨b', e, hb'⟩
          · rw [e] at hb; exact hF.out b hb
          · rw [e] at hb; cases hb; have := hM.out.size; omega
        · exact hM.out.step hG3.mod (fun i hi hs => by have := hF.out i hs; omega)
      clear hstep hQ
      by_cases h34 : c = 34
      · subst h34
        go_wp2_with (first
          | (at_builtin; refine wpL_appendN (us := [_, _]) rfl (.tmp 22) (.tmp 24) 34 rfl ti24 rfl hO.out rfl rfl rfl (by omega) (by unfold maxLen; omega) ?_; intro a3 c3 w3 hO3 hG3 _
             have HO3 := Lib.hid hO3; have HG3 := Lib.hid hG3; clear hO3 hG3))
        go_roundw
        case rel => exact HREL.out _ _ _ _ _ _ _ (by simp [q1, bts]) rfl HO3.out HG3.out rfl (by go_num)
        case measure => simp [intOf]; omega
      · by_cases h92 : c = 92
        · subst h92
          go_wp2_with (first
            | (at_builtin; refine wpL_appendN (us := [_, _]) rfl (.tmp 22) (.tmp 24) 34 rfl ti24 rfl hO.out rfl rfl rfl (by omega) (by unfold maxLen; omega) ?_; intro a3 c3 w3 hO3 hG3 _
               have HO3 := Lib.hid hO3; have HG3 := Lib.hid hG3; clear hO3 hG3))
          go_roundw
          case rel => exact HREL.out _ _ _ _ _ _ _ (by simp [q1, bts]) rfl HO3.out HG3.out rfl (by go_num)
          case measure => simp [intOf]; omega
        · by_cases h10 : c = 10
          · subst h10
            go_wp2_with (first
              | (at_builtin; refine wpL_appendN (us := [_, _]) rfl (.tmp 28) (.tmp 29) 34 rfl ti24 rfl hO.out rfl rfl rfl (by omega) (by unfold maxLen; omega) ?_; intro a3 c3 w3 hO3 hG3 _
                 have HO3 := Lib.hid hO3; have HG3 := Lib.hid hG3; clear hO3 hG3))
            go_roundw
            case rel => exact HREL.out _ _ _ _ _ _ _ (by simp [q1, bts]) rfl HO3.out HG3.out rfl (by go_num)
            case measure => simp [intOf]; omega
          · by_cases h9 : c = 9
            · subst h9
              go_wp2_with (first
                | (at_builtin; refine wpL_appendN (us := [_, _]) rfl (.tmp 33) (.tmp 34) 34 rfl ti24 rfl hO.out rfl rfl rfl (by omega) (by unfold maxLen; omega) ?_; intro a3 c3 w3 hO3 hG3 _
                   have HO3 := Lib.hid hO3; have HG3 := Lib.hid hG3; clear hO3 hG3))
              go_roundw
              case rel => exact HREL.out _ _ _ _ _ _ _ (by simp [q1, bts]) rfl HO3.out HG3.out rfl (by go_num)
              case measure => simp [intOf]; omega
            · obtain ⟨n, hn⟩ : ∃ n, n = c.toNat := ⟨_, rfl⟩
              have hn256 : n < 256 := by rw [hn]; exact c.toNat_lt
              have t34 : n ≠ 34 := fun h => h34 (by rw [← UInt8.toNat_inj, ← hn, h]; rfl)
              have e34 : ((n : Int) == 34) = false := by simp; omega
              have t92 : n ≠ 92 := fun h => h92 (by rw [← UInt8.toNat_inj, ← hn, h]; rfl)
              have e92 : ((n : Int) == 92) = false := by simp; omega
              have t10 : n ≠ 10 := fun h => h10 (by rw [← UInt8.toNat_inj, ← hn, h]; rfl)
              have e10 : ((n : Int) == 10) = false := by simp; omega
              have t9 : n ≠ 9 := fun h => h9 (by rw [← UInt8.toNat_inj, ← hn, h]; rfl)
              have e9 : ((n : Int) == 9) = false := by simp; omega
              have hcn : s[k].toNat = n := by rw [hc, hn]
              by_cases hpr : 32 ≤ n ∧ n ≤ 126
              · obtain ⟨hp1, hp2⟩ := hpr
                have HQ : Hid (bts (q1 c) = [.int .u8 n]) := by unfold Hid q1; rw [if_neg (by simp [h34, h92]), if_neg h10, if_neg h9, if_pos ⟨by rw [UInt8.le_iff_toNat_le, ← hn]; exact hp1, by rw [UInt8.le_iff_toNat_le, ← hn]; exact hp2⟩, hn]; rfl
                clear h34 h92 h10 h9 hn hc t34 t92 t10 t9
                go_wp2_with (first
                  | (at_builtin; refine wpL_appendN (us := [_]) rfl (.tmp 42) (.tmp 44) 34 rfl ti24 rfl hO.out rfl rfl rfl (by omega) (by unfold maxLen; omega) ?_; intro a3 c3 w3 hO3 hG3 _
                     have HO3 := Lib.hid hO3; have HG3 := Lib.hid hG3; clear hO3 hG3))
                go_roundw
                case rel => exact HREL.out _ _ _ _ _ _ _ (by exact HQ.out.symm) rfl HO3.out HG3.out rfl (by go_num)
                case measure => simp [intOf]; omega
              · have HQ : Hid (bts (q1 c) = [.int .u8 92, .int .u8 120, .int .u8 (fig (UInt8.ofNat (n / 16))).toNat, .int .u8 (fig (UInt8.ofNat (n % 16))).toNat]) := by
                  have e1 : UInt8.ofNat (n / 16) = c / 16 := by
                    rw [← UInt8.toNat_inj, UInt8.toNat_div, UInt8.toNat_ofNat', ← hn]
                    show (n / 16) % 256 = n / 16
                    omega
                  have e2 : UInt8.ofNat (n % 16) = c % 16 := by
                    rw [← UInt8.toNat_inj, UInt8.toNat_mod, UInt8.toNat_ofNat', ← hn]
                    show (n % 16) % 256 = n % 16
                    omega
                  rw [e1, e2]
                  unfold Hid q1
                  rw [if_neg (by simp [h34, h92]), if_neg h10, if_neg h9, if_neg (by rw [UInt8.le_iff_toNat_le, UInt8.le_iff_toNat_le, ← hn]; exact hpr)]
                  rfl
                clear h34 h92 h10 h9 hn hc t34 t92 t10 t9
                have HA : Hid (∀ w, Calls Tryz.prog 199 #[.int .i64 ((n : Int) / 16)] w fun e w' => e = .returned (.int .u8 (fig (UInt8.ofNat (n / 16))).toNat) ∧ w = w') := fun w => figure_any (n / 16) w (by omega)
                have HB : Hid (∀ w, Calls Tryz.prog 199 #[.int .i64 ((n : Int) % 16)] w fun e w' => e = .returned (.int .u8 (fig (UInt8.ofNat (n % 16))).toNat) ∧ w = w') := fun w => figure_any (n % 16) w (by omega)
                generalize (fig (UInt8.ofNat (n / 16))).toNat = fa at *
                generalize (fig (UInt8.ofNat (n % 16))).toNat = fb at *
                rcases (show n < 32 ∨ 126 < n by omega) with hpr | hpr
                all_goals
                  go_wp2_with (first
                    | (go_at_call 199; refine (HA.out _).mono ?_; rintro e w2 ⟨rfl, rfl⟩; clear HA)
                    | (go_at_call 199; refine (HB.out _).mono ?_; rintro e w2 ⟨rfl, rfl⟩)
                    | (at_builtin; refine wpL_appendN (us := [_, _, _, _]) rfl (.tmp 46) (.tmp 55) 34 rfl ti24 rfl hO.out rfl rfl rfl (by omega) (by unfold maxLen; omega) ?_; intro a3 c3 w3 hO3 hG3 _
                       have HO3 := Lib.hid hO3; have HG3 := Lib.hid hG3; clear hO3 hG3))
                  go_roundw
                  case rel => exact HREL.out _ _ _ _ _ _ _ (HQ.out.symm) rfl HO3.out HG3.out rfl (by go_num)
                  case measure => simp [intOf]; omega
    · obtain rfl : k = s.size := by omega
      have hq := hQ.out
      rw [List.take_of_length_le (by have := (Lib.size_eq s).symm; omega)] at hq
      have HQ : Hid (quotedL s.data.toList = bs ++ [34]) := by unfold Hid; rw [hq]; rfl
      clear hQ hq
      go_wp2_with (first
        | (at_builtin; refine wpL_appendN (us := [_]) rfl (.tmp 57) (.tmp 58) 34 rfl ti24 rfl hO.out rfl rfl rfl (by omega) (by unfold maxLen; omega) ?_; intro a3 c3 w3 hO3 hG3 _
           have hcv := conv_snoc a3 c3 bs w3 hO3.rd
           have HO3 := Lib.hid hO3; have HG3 := Lib.hid hG3; clear hO3 hG3))
      go_ret
      exact ⟨by rw [HQ.out]; rfl, hM.out.step HG3.out.mod (fun i hi hs => by have := hF.out i hs; omega)⟩
end Go.Proofs.YteecbbnpgmceiaaGreatDoor
