import Derived.Test.YteecbbnpgmceiaaDoorStrs
namespace Go.Proofs.YteecbbnpgmceiaaDoor
open Go Go.RowKit Go.Mine
set_option maxHeartbeats 400000
set_option maxRecDepth 100000
set_option linter.unusedVariables false

/-- a digit of the sixteen -/
def sx (c : UInt8) : Option Nat := if 48 ≤ c ∧ c ≤ 57 then some (c.toNat - 48) else if 97 ≤ c ∧ c ≤ 102 then some (c.toNat - 87) else none
def sxI (c : UInt8) : Int := match sx c with | some v => v | none => -1
theorem sx_idx (c : UInt8) : Lib.indexByte [48, 49, 50, 51, 52, 53, 54, 55, 56, 57, 97, 98, 99, 100, 101, 102] c = sxI c := by
  have h : ∀ n : Fin 256, Lib.indexByte [48, 49, 50, 51, 52, 53, 54, 55, 56, 57, 97, 98, 99, 100, 101, 102] (UInt8.ofNat n.1) = sxI (UInt8.ofNat n.1) := by decide +kernel
  have := h ⟨c.toNat, c.toNat_lt⟩
  simpa using this
theorem sx_lt {c : UInt8} {v : Nat} (h : sx c = some v) : v < 16 := by
  unfold sx at h
  split at h
  · rename_i h2
    have h3 := UInt8.le_iff_toNat_le.1 h2.2
    cases h
    have : (57 : UInt8).toNat = 57 := rfl
    omega
  · split at h
    · rename_i h2
      have h3 := UInt8.le_iff_toNat_le.1 h2.2
      cases h
      have : (102 : UInt8).toNat = 102 := rfl
      omega
    · cases h
/-- what stands behind a backslash: the byte, and how long it is; 0: it is none -/
def escL : List UInt8 → UInt8 × Nat
  | [] => (0, 0)
  | c :: r => if c = 34 then (34, 1) else if c = 92 then (92, 1) else if c = 110 then (10, 1) else if c = 116 then (9, 1) else if c ≠ 120 then (0, 0) else
    match r with
    | a :: b :: _ => match sx a, sx b with
      | some x, some y => (UInt8.ofNat (16 * x + y), 3)
      | _, _ => (0, 0)
    | _ => (0, 0)
theorem ret_u8i {a b c d : Int} (h1 : a = b) (h2 : c = d) : Ending.returned (.tuple #[.int .u8 a, .int .i64 c]) = .returned (.tuple #[.int .u8 b, .int .i64 d]) := by rw [h1, h2]

theorem escape_any (s : ByteArray) (w : World) (hs : s.size < 2 ^ 40) :
    Calls Tryd.prog 176 #[.string s] w fun e w' => e = .returned (.tuple #[.int .u8 (escL s.data.toList).1.toNat, .int .i64 (escL s.data.toList).2]) ∧ Mod (fun _ => False) w w' := by
  by_cases h0 : 0 < s.size
  · have hl : s.data.toList = s[0] :: s.data.toList.drop 1 := by
      have := List.drop_eq_getElem_cons (l := s.data.toList) (i := 0) (by simpa using h0)
      rw [List.drop_zero] at this
      exact this
    have hr : (s.data.toList.drop 1).length = s.size - 1 := by rw [List.length_drop]; rfl
    have hne : s.toList.isEmpty = false := by
      rw [Lib.toList_data, hl]; rfl
    rw [hl]
    obtain ⟨c, hc⟩ : ∃ c, s[0] = c := ⟨_, rfl⟩
    rw [hc]
    have H1 := Lib.hid (fun w => idx_any ⟨#[34, 92, 110, 116]⟩ c w)
    have HR := Lib.hid hr; clear hr hl
    by_cases h34 : c = 34
    · subst h34
      have e : Lib.indexByte (ByteArray.mk #[34, 92, 110, 116]).data.toList 34 = 0 := by decide
      rw [e] at H1
      clear e
      show Calls _ _ _ _ fun e w' => e = .returned (.tuple #[.int .u8 34, .int .i64 1]) ∧ Mod (fun _ => False) w w'
      go_enter Tryd.func176, Tryd.ntmps176
      go_wp2_with (first
        | (go_at_call 147; refine (H1.out _).mono ?_; rintro e w' ⟨rfl, rfl⟩; clear H1))
      go_ret2
      exact ⟨rfl, Mod.refl _ w⟩
    · by_cases h92 : c = 92
      · subst h92
        have e : Lib.indexByte (ByteArray.mk #[34, 92, 110, 116]).data.toList 92 = 1 := by decide
        rw [e] at H1
        clear e
        show Calls _ _ _ _ fun e w' => e = .returned (.tuple #[.int .u8 92, .int .i64 1]) ∧ Mod (fun _ => False) w w'
        go_enter Tryd.func176, Tryd.ntmps176
        go_wp2_with (first
          | (go_at_call 147; refine (H1.out _).mono ?_; rintro e w' ⟨rfl, rfl⟩; clear H1))
        go_ret2
        exact ⟨rfl, Mod.refl _ w⟩
      · by_cases h110 : c = 110
        · subst h110
          have e : Lib.indexByte (ByteArray.mk #[34, 92, 110, 116]).data.toList 110 = 2 := by decide
          rw [e] at H1
          clear e
          show Calls _ _ _ _ fun e w' => e = .returned (.tuple #[.int .u8 10, .int .i64 1]) ∧ Mod (fun _ => False) w w'
          go_enter Tryd.func176, Tryd.ntmps176
          go_wp2_with (first
            | (go_at_call 147; refine (H1.out _).mono ?_; rintro e w' ⟨rfl, rfl⟩; clear H1))
          go_ret2
          exact ⟨rfl, Mod.refl _ w⟩
        · by_cases h116 : c = 116
          · subst h116
            have e : Lib.indexByte (ByteArray.mk #[34, 92, 110, 116]).data.toList 116 = 3 := by decide
            rw [e] at H1
            clear e
            show Calls _ _ _ _ fun e w' => e = .returned (.tuple #[.int .u8 9, .int .i64 1]) ∧ Mod (fun _ => False) w w'
            go_enter Tryd.func176, Tryd.ntmps176
            go_wp2_with (first
              | (go_at_call 147; refine (H1.out _).mono ?_; rintro e w' ⟨rfl, rfl⟩; clear H1))
            go_ret2
            exact ⟨rfl, Mod.refl _ w⟩
          · have e : Lib.indexByte (ByteArray.mk #[34, 92, 110, 116]).data.toList c = -1 := by
              have k : ∀ n : Fin 256, UInt8.ofNat n.1 ≠ 34 → UInt8.ofNat n.1 ≠ 92 → UInt8.ofNat n.1 ≠ 110 → UInt8.ofNat n.1 ≠ 116 → Lib.indexByte (ByteArray.mk #[34, 92, 110, 116]).data.toList (UInt8.ofNat n.1) = -1 := by decide +kernel
              have := k ⟨c.toNat, c.toNat_lt⟩
              simp only [UInt8.ofNat_toNat] at this
              exact this h34 h92 h110 h116
            rw [e] at H1
            clear e
            by_cases h120 : c = 120
            · subst h120
              by_cases h3 : 3 ≤ s.size
              · have hl2 : s.data.toList.drop 1 = s[1] :: s[2] :: s.data.toList.drop 3 := by
                  rw [List.drop_eq_getElem_cons (i := 1) (by simpa using (show 1 < s.size by omega)), List.drop_eq_getElem_cons (i := 2) (by simpa using (show 2 < s.size by omega))]
                  rfl
                rw [hl2]
                obtain ⟨a, ha⟩ : ∃ a, s[1] = a := ⟨_, rfl⟩
                obtain ⟨b, hb⟩ : ∃ b, s[2] = b := ⟨_, rfl⟩
                rw [ha, hb]
                have H2 : Hid (∀ w, Calls Tryd.prog 147 #[.string ⟨#[48, 49, 50, 51, 52, 53, 54, 55, 56, 57, 97, 98, 99, 100, 101, 102]⟩, .int .u8 a.toNat] w fun e w' => e = .returned (.int .i64 (sxI a)) ∧ w = w') := fun w => by rw [← sx_idx]; exact idx_any _ _ _
                have H3 : Hid (∀ w, Calls Tryd.prog 147 #[.string ⟨#[48, 49, 50, 51, 52, 53, 54, 55, 56, 57, 97, 98, 99, 100, 101, 102]⟩, .int .u8 b.toNat] w fun e w' => e = .returned (.int .i64 (sxI b)) ∧ w = w') := fun w => by rw [← sx_idx]; exact idx_any _ _ _
                have hxa := fun v (h : sx a = some v) => sx_lt h
                have hxb := fun v (h : sx b = some v) => sx_lt h
                have hE : escL (120 :: a :: b :: s.data.toList.drop 3) = match sx a, sx b with
                  | some x, some y => (UInt8.ofNat (16 * x + y), 3)
                  | _, _ => (0, 0) := rfl
                rw [hE]
                clear hE hl2
                unfold sxI at H2 H3
                generalize sx a = xa at *
                generalize sx b = xb at *
                cases xa with
                | none =>
                  clear hxa hxb
                  have hE : (match (none : Option Nat), xb with
                    | some x, some y => (UInt8.ofNat (16 * x + y), 3)
                    | _, _ => ((0 : UInt8), 0)) = (0, 0) := rfl
                  show Calls _ _ _ _ fun e w' => e = .returned (.tuple #[.int .u8 0, .int .i64 0]) ∧ Mod (fun _ => False) w w'
                  clear hE
                  generalize (match xb with | some v => (v : Int) | none => -1) = ib at H3
                  go_enter Tryd.func176, Tryd.ntmps176
                  go_wp2_with (first
                    | (go_at_call 147; refine (H1.out _).mono ?_; rintro e w' ⟨rfl, rfl⟩; clear H1))
                  refine wp_region_ord (fun _ => True) [(0, 0), (0, 1), (0, 3), (0, 4), (3, 2), (3, 5), (0, 6), (0, 7)] (by kernel_rfl) (by kernel_rfl) ?_
                  go_wp2_with (first
                    | (refine ord_pure rfl rfl rfl (fun K hK => ?_); go_big_quiet_op; refine hK _ ?_; clear hK K)
                        | (refine ord_skip rfl rfl ?_; simp only [Act.put, List.setIfInBounds_toArray, List.set_cons_zero, List.set_cons_succ])
                        | (refine ord_held rfl rfl rfl (True.intro) (fun K hK => ?_); apply Exists.intro; refine ⟨fun w' hs => ?_, hK _ ?_⟩; (revert hs; dsimp only; (try simp only [and_imp]); intros; go_simp; rfl); clear hK K)
                        | (refine ord_keep rfl rfl (True.intro) (fun K hK => ?_))
                        | (refine ord_drop rfl rfl (fun K hK => ?_))
                        | (refine ord_nil ?_)
                    | (go_at_call 147; refine (H2.out _).mono ?_; rintro e w' ⟨rfl, rfl⟩; clear H2)
                    | (go_at_call 147; refine (H3.out _).mono ?_; rintro e w' ⟨rfl, rfl⟩; clear H3))
                  go_ret2
                  exact ⟨rfl, (Mod.refl _ w).drew⟩
                | some x =>
                  have hx := hxa x rfl
                  cases xb with
                  | none =>
                    clear hxa hxb
                    show Calls _ _ _ _ fun e w' => e = .returned (.tuple #[.int .u8 0, .int .i64 0]) ∧ Mod (fun _ => False) w w'
                    go_enter Tryd.func176, Tryd.ntmps176
                    go_wp2_with (first
                      | (go_at_call 147; refine (H1.out _).mono ?_; rintro e w' ⟨rfl, rfl⟩; clear H1))
                    refine wp_region_ord (fun _ => True) [(0, 0), (0, 1), (0, 3), (0, 4), (3, 2), (3, 5), (0, 6), (0, 7)] (by kernel_rfl) (by kernel_rfl) ?_
                    go_wp2_with (first
                      | (refine ord_pure rfl rfl rfl (fun K hK => ?_); go_big_quiet_op; refine hK _ ?_; clear hK K)
                        | (refine ord_skip rfl rfl ?_; simp only [Act.put, List.setIfInBounds_toArray, List.set_cons_zero, List.set_cons_succ])
                        | (refine ord_held rfl rfl rfl (True.intro) (fun K hK => ?_); apply Exists.intro; refine ⟨fun w' hs => ?_, hK _ ?_⟩; (revert hs; dsimp only; (try simp only [and_imp]); intros; go_simp; rfl); clear hK K)
                        | (refine ord_keep rfl rfl (True.intro) (fun K hK => ?_))
                        | (refine ord_drop rfl rfl (fun K hK => ?_))
                        | (refine ord_nil ?_)
                      | (go_at_call 147; refine (H2.out _).mono ?_; rintro e w' ⟨rfl, rfl⟩; clear H2)
                      | (go_at_call 147; refine (H3.out _).mono ?_; rintro e w' ⟨rfl, rfl⟩; clear H3))
                    go_ret2
                    exact ⟨rfl, (Mod.refl _ w).drew⟩
                  | some y =>
                    have hy := hxb y rfl
                    clear hxa hxb
                    go_enter Tryd.func176, Tryd.ntmps176
                    go_wp2_with (first
                      | (go_at_call 147; refine (H1.out _).mono ?_; rintro e w' ⟨rfl, rfl⟩; clear H1))
                    refine wp_region_ord (fun _ => True) [(0, 0), (0, 1), (0, 3), (0, 4), (3, 2), (3, 5), (0, 6), (0, 7)] (by kernel_rfl) (by kernel_rfl) ?_
                    go_wp2_with (first
                      | (refine ord_pure rfl rfl rfl (fun K hK => ?_); go_big_quiet_op; refine hK _ ?_; clear hK K)
                        | (refine ord_skip rfl rfl ?_; simp only [Act.put, List.setIfInBounds_toArray, List.set_cons_zero, List.set_cons_succ])
                        | (refine ord_held rfl rfl rfl (True.intro) (fun K hK => ?_); apply Exists.intro; refine ⟨fun w' hs => ?_, hK _ ?_⟩; (revert hs; dsimp only; (try simp only [and_imp]); intros; go_simp; rfl); clear hK K)
                        | (refine ord_keep rfl rfl (True.intro) (fun K hK => ?_))
                        | (refine ord_drop rfl rfl (fun K hK => ?_))
                        | (refine ord_nil ?_)
                      | (go_at_call 147; refine (H2.out _).mono ?_; rintro e w' ⟨rfl, rfl⟩; clear H2)
                      | (go_at_call 147; refine (H3.out _).mono ?_; rintro e w' ⟨rfl, rfl⟩; clear H3))
                    go_ret2
                    refine ⟨ret_u8i ?_ rfl, (Mod.refl _ w).drew⟩
                    rw [UInt8.toNat_ofNat']
                    show _ = (((16 * x + y) % 256 : Nat) : Int)
                    omega
              · have hE : escL (120 :: s.data.toList.drop 1) = (0, 0) := by
                  rcases hd : s.data.toList.drop 1 with _ | ⟨a, _ | ⟨b, r⟩⟩
                  · rfl
                  · rfl
                  · have := HR.out; rw [hd] at this; simp at this; omega
                rw [hE]
                clear hE
                show Calls _ _ _ _ fun e w' => e = .returned (.tuple #[.int .u8 0, .int .i64 0]) ∧ Mod (fun _ => False) w w'
                go_enter Tryd.func176, Tryd.ntmps176
                go_wp2_with (first
                  | (go_at_call 147; refine (H1.out _).mono ?_; rintro e w' ⟨rfl, rfl⟩; clear H1))
                go_ret2
                exact ⟨rfl, Mod.refl _ w⟩
            · have hE : escL (c :: s.data.toList.drop 1) = (0, 0) := by
                simp only [escL]; rw [if_neg h34, if_neg h92, if_neg h110, if_neg h116, if_pos h120]
              rw [hE]
              obtain ⟨n, hn⟩ : ∃ n, n = c.toNat := ⟨_, rfl⟩
              have t120 : n ≠ 120 := fun h => h120 (by rw [← UInt8.toNat_inj, ← hn, h]; rfl)
              have e120 : ((n : Int) != 120) = true := by simp; omega
              have hcn : s[0].toNat = n := by rw [hc, hn]
              rw [← hn] at H1
              clear hE h34 h92 h110 h116 h120 hn hc t120
              show Calls _ _ _ _ fun e w' => e = .returned (.tuple #[.int .u8 0, .int .i64 0]) ∧ Mod (fun _ => False) w w'
              go_enter Tryd.func176, Tryd.ntmps176
              go_wp2_with (first
                | (go_at_call 147; refine (H1.out _).mono ?_; rintro e w' ⟨rfl, rfl⟩; clear H1))
              go_ret2
              exact ⟨rfl, Mod.refl _ w⟩
  · have hl : s.data.toList = [] := List.eq_nil_of_length_eq_zero (by have := (Lib.size_eq s).symm; omega)
    have he : s.toList.isEmpty = true := by rw [Lib.toList_data, hl]; rfl
    have hsz : s.size = 0 := by omega
    rw [hl]
    clear hl h0
    go_enter Tryd.func176, Tryd.ntmps176
    go_wp2
    go_ret2
    exact ⟨rfl, Mod.refl _ w⟩
end Go.Proofs.YteecbbnpgmceiaaDoor
