import Derived.Test.YtgplagdehfhffaaDoorRefQuote
import Derived.Test.YtgplagdehfhffaaDoorRefMark
import Derived.Test.YtgplagdehfhffaaDoorRefWord3
import Derived.Test.YtgplagdehfhffaaDoorScan
namespace Go.Proofs.YtgplagdehfhffaaDoor
open Go Go.RowKit Go.Mine
set_option maxHeartbeats 4000000
set_option maxRecDepth 100000
set_option linter.unusedVariables false

theorem ti27 : TI Tryd.prog 96 155 3 32 := TI.mk' (z := .agg #[.int .i64 0, .string ⟨#[]⟩, .int .i64 0]) (by kernel_rfl) (by kernel_rfl) rfl (by omega)
theorem cmtE_eq {s : ByteArray} {k j : Nat} (hkj : k ≤ j) (hj : j ≤ s.size) (hno : ∀ x, k ≤ x → x < j → s.get! x ≠ 10) (he : ∀ h : j < s.size, s[j] = 10) : cmtE s k = j := by
  unfold cmtE
  obtain ⟨d, rfl⟩ : ∃ d, j = k + d := ⟨j - k, by omega⟩
  congr 1
  induction d generalizing k with
  | zero =>
    by_cases h : k < s.size
    · have h1 : s.data.toList.drop k = s[k] :: s.data.toList.drop (k + 1) := List.drop_eq_getElem_cons (by simpa using h)
      have he2 : s[k] = 10 := he h
      rw [h1, List.takeWhile_cons, he2]; rfl
    · rw [List.drop_eq_nil_of_le (by rw [← Lib.size_eq]; omega)]; rfl
  | succ d ih =>
    have h : k < s.size := by omega
    have h1 : s.data.toList.drop k = s[k] :: s.data.toList.drop (k + 1) := List.drop_eq_getElem_cons (by simpa using h)
    have h2 := hno k (Nat.le_refl _) (by omega)
    rw [get_in s k h] at h2
    have hb : (s[k] != 10) = true := by simpa using h2
    rw [h1, List.takeWhile_cons, hb, if_pos rfl, List.length_cons]
    rw [ih (k := k + 1) (by omega) (by omega) (fun x hx hx2 => hno x (by omega) (by omega)) (fun h => by have := he (by omega); simpa [Nat.add_assoc, Nat.add_comm 1 d] using this)]

theorem found_any (a0 : Option Addr) (c : Nat) (l : List UInt8) (w : World) (hRd : Rd w a0 (bts l)) (hl : l.length < 2 ^ 30) :
    Calls Tryd.prog 99 #[.slice a0 l.length c] w fun e w' => ∃ (a' : Option Addr) (c' : Nat), e = .returned (.tuple #[.slice a' (foundL ⟨l.toArray⟩).1.length c', .int .i64 (foundL ⟨l.toArray⟩).2.1, .int .i64 (foundL ⟨l.toArray⟩).2.2]) ∧
      Mine.Own w' 155 3 a' (foundL ⟨l.toArray⟩).1.length c' (toksC (foundL ⟨l.toArray⟩).1) ∧ Mod (fun _ => False) w w' ∧ (∀ b, blk a' = some b → w.heap.size ≤ b) := by
  by_cases hlong : 65536 < l.length
  · have hf : foundL ⟨l.toArray⟩ = ([], 0, 3) := by unfold foundL; rw [if_pos (show 65536 < (⟨l.toArray⟩ : ByteArray).size from hlong)]
    rw [hf]
    clear hf hRd
    go_enter Tryd.func99, Tryd.ntmps99
    go_wp2
    go_ret3
    exact ⟨none, 0, rfl, Mine.Own.nil _ _ _, Mod.refl _ w, by simp⟩
  · have hf : foundL ⟨l.toArray⟩ = scanL ⟨l.toArray⟩ := by unfold foundL; rw [if_neg (show ¬ 65536 < (⟨l.toArray⟩ : ByteArray).size from hlong)]
    have hlen := foundL_len ⟨l.toArray⟩
    rw [hf]
    rw [hf] at hlen
    clear hf
    have hcv := run_bytes_str (P := Tryd.prog) (w := w) (src := 22) (dst := 9) (e := 5) (by kernel_rfl) (by kernel_rfl) (by kernel_rfl) c hRd
    have hsz : l.length = (⟨l.toArray⟩ : ByteArray).size := rfl
    rw [hsz] at hl hlong hcv ⊢
    clear hsz hRd
    generalize (⟨l.toArray⟩ : ByteArray) = s at *
    have hTR0 := scanL_res s
    generalize scanL s = R at *
    have HT0 := Lib.hid hTR0
    have HLEN := Lib.hid hlen
    clear hTR0 hlen
    go_enter Tryd.func99, Tryd.ntmps99
    go_wp2
    clear hcv
    go_loopw [6, 7] (fun lv at_ wr => ∃ (k : Nat) (ts : List Tok) (a : Option Addr) (c : Nat) (r : List Tok × Nat × Nat), lv = .slice a ts.length c ∧ at_ = .int .i64 k ∧ k ≤ s.size ∧
      Hid (Mine.Own wr 155 3 a ts.length c (toksC ts) ∧ (∀ b, blk a = some b → w.heap.size ≤ b) ∧ Mod (fun _ => False) w wr) ∧ Hid (TRes s k r) ∧ Hid (R = (ts ++ r.1, r.2))) (fun _ at_ _ => s.size - (intOf at_).toNat)
    case atStart => exact ⟨0, [], none, 0, R, rfl, rfl, by omega, Lib.hid ⟨Mine.Own.nil _ _ _, by simp, Mod.refl _ w⟩, HT0, rfl⟩
    case round =>
      obtain ⟨k, ts, a, c0, r, rfl, rfl, hk, hW, hTR, hL⟩ := hrel
      have htl : ts.length ≤ 2 ^ 31 := by
        have := HLEN.out; rw [hL.out] at this; simp at this; omega
      have HNX : Hid (∀ (w3 : World) (a3 : Option Addr) (c3 : Nat) (t : Tok) {n : Nat} (xs : List Value), (n = (ts ++ [t]).length ∧ xs = tokC t) → Mine.Own w3 155 3 a3 n c3 (toksC ts ++ xs) → (∃ wq, Mod (fun _ => False) wr wq ∧ Grow wq a w3 a3) →
          Hid (Mine.Own w3 155 3 a3 (ts ++ [t]).length c3 (toksC (ts ++ [t])) ∧ (∀ b, blk a3 = some b → w.heap.size ≤ b) ∧ Mod (fun _ => False) w w3)) := by
        rintro w3 a3 c3 t n xs ⟨rfl, rfl⟩ h1 ⟨wq, hq, h2⟩
        refine ⟨by rw [toksC_append]; simpa [toksC] using h1, ?_, ?_⟩
        · intro b hb
          rcases h2.pos with e | ⟨b', e, hb'⟩
          · rw [e] at hb; exact hW.out.2.1 b hb
          · rw [e] at hb; cases hb; have := hW.out.2.2.size; have := hq.size; omega
        · exact (hW.out.2.2.trans hq).step h2.mod (fun i hi hs => by have := hW.out.2.1 i hs; omega)
      by_cases hlt : k < s.size
      · obtain ⟨c, hc⟩ : ∃ c, s[k] = c := ⟨_, rfl⟩
        by_cases h32 : c = 32
        · subst h32
          have HR2 := Lib.hid (hTR.out.blank hlt (.inl hc))
          go_wp2
          go_roundw
          case rel => exact ⟨k + 1, ts, a, c0, r, rfl, by go_num, hlt, hW, HR2, hL⟩
          case measure => simp [intOf]; omega
        by_cases h9 : c = 9
        · subst h9
          have HR2 := Lib.hid (hTR.out.blank hlt (.inr (.inl hc)))
          go_wp2
          go_roundw
          case rel => exact ⟨k + 1, ts, a, c0, r, rfl, by go_num, hlt, hW, HR2, hL⟩
          case measure => simp [intOf]; omega
        by_cases h10 : c = 10
        · subst h10
          have HR2 := Lib.hid (hTR.out.blank hlt (.inr (.inr (.inl hc))))
          go_wp2
          go_roundw
          case rel => exact ⟨k + 1, ts, a, c0, r, rfl, by go_num, hlt, hW, HR2, hL⟩
          case measure => simp [intOf]; omega
        by_cases h13 : c = 13
        · subst h13
          have HR2 := Lib.hid (hTR.out.blank hlt (.inr (.inr (.inr hc))))
          go_wp2
          go_roundw
          case rel => exact ⟨k + 1, ts, a, c0, r, rfl, by go_num, hlt, hW, HR2, hL⟩
          case measure => simp [intOf]; omega
        by_cases h37 : c = 37
        · subst h37
          have HTC := Lib.hid (hTR.out.cmt hlt hc)
          have hcl := cmtE_le (Nat.le_of_lt hlt)
          have hcp := cmtE_pos hlt hc
          have HCL := Lib.hid hcl; have HCP := Lib.hid hcp
          clear hcl hcp
          go_wp2
          go_loopw [7] (fun at_ w2 => ∃ j : Nat, at_ = .int .i64 j ∧ w2 = wr ∧ k ≤ j ∧ j ≤ s.size ∧ Hid (∀ x, k ≤ x → x < j → s.get! x ≠ 10)) (fun at_ _ => s.size - (intOf at_).toNat)
          case atStart => exact ⟨k, rfl, rfl, by omega, hk, Lib.hid (fun x h1 h2 => by omega)⟩
          case round =>
            rename_i wq _ _ _ _ _ _ _ _ _ _ _ _
            obtain ⟨j, rfl, rfl, hkj, hj, hno⟩ := hrel
            by_cases hjl : j < s.size
            · obtain ⟨nj, hnj⟩ : ∃ nj, s[j].toNat = nj := ⟨_, rfl⟩
              have hg : s.get! j = s[j] := get_in s j hjl
              by_cases hj10 : nj = 10
              · subst hj10
                have hce := cmtE_eq hkj hj hno.out (fun h => by rw [← UInt8.toNat_inj, hnj]; rfl)
                have HR2 := HTC
                rw [hce] at HR2
                have hcp2 := HCP.out
                rw [hce] at hcp2
                clear hce hg
                go_wp2
                go_roundw
                case rel => exact ⟨j, ts, a, c0, r, rfl, rfl, hj, hW, HR2, hL⟩
                case measure => have := HCP.out; simp [intOf]; omega
              · have hjb : ((nj : Int) != 10) = true := by simp; omega
                have HG := Lib.hid hg; clear hg
                have HJ10 := Lib.hid hj10; clear hj10
                go_wp2
                go_roundw
                case rel => exact ⟨j + 1, by go_num, by first | trivial | rfl, by omega, hjl, Lib.hid (fun x h1 h2 => by
                  by_cases e : x = j
                  · subst e; rw [HG.out]; intro h; exact HJ10.out (by rw [← hnj, h]; rfl)
                  · exact hno.out x h1 (by omega))⟩
                case measure => simp [intOf]; omega
            · obtain rfl : j = s.size := by omega
              have hce := cmtE_eq hkj hj hno.out (fun h => by omega)
              have HR2 := HTC
              rw [hce] at HR2
              have hcp2 := HCP.out
              rw [hce] at hcp2
              clear hce
              go_wp2
              go_roundw
              case rel => exact ⟨s.size, ts, a, c0, r, rfl, rfl, hj, hW, HR2, hL⟩
              case measure => have := HCP.out; simp [intOf]; omega
        by_cases h34 : c = 34
        · subst h34
          have HQ := Lib.hid (fun w => refQuote_any s k w hlt hl)
          have hle := (qGo_le (s := s) (s.size + 1) (k + 1) [] (by omega)).2
          have hle2 : (quoteE s (k + 1)).2.1 ≤ s.size ∧ ((quoteE s (k + 1)).2.2 = true → k + 1 < (quoteE s (k + 1)).2.1) := hle
          clear hle
          generalize hqE' : quoteE s (k + 1) = q at *
          obtain ⟨x, en, ok⟩ := q
          simp only at HQ hle2
          have HC := Lib.hid hc
          cases ok with
          | true =>
            obtain ⟨r', hr, hT'⟩ := hTR.out.quote1 hlt hc hqE'
            have HT' := Lib.hid hT'
            have HRr := Lib.hid hr
            have hen := hle2.2 rfl
            have hen2 := hle2.1
            clear hr hT' hle2 hqE'
            go_wp2_with (first
              | (go_at_call 139; refine (HQ.out _).mono ?_; rintro e w2 ⟨rfl, hm2⟩; have HM2 := Lib.hid hm2; clear hm2)
              | (go_at_call 140; refine (HWD.out _).mono ?_; rintro e w' ⟨rfl, rfl⟩)
              | (go_at_call 141; refine (HMK.out _).mono ?_; rintro e w' ⟨rfl, rfl⟩)
              | (at_builtin; refine wpL_appendN (us := [_, _, _]) rfl (.tmp 71) (.tmp 75) 96 rfl ti27 rfl ((hW.out.1.mod HM2.out (fun _ _ => id))) rfl rfl rfl (by omega) (by unfold maxLen; omega) ?_; intro a3 c3 w3 hO3 hG3 _
                 have HO3 := Lib.hid hO3; have HG3 := Lib.hid hG3; clear hO3 hG3))
            go_roundw
            case rel => exact ⟨en, ts ++ [⟨3, ⟨x.toArray⟩, k⟩], a3, c3, r', by simp, rfl, hen2, HNX.out _ _ _ ⟨3, ⟨x.toArray⟩, k⟩ _ ⟨by simp, rfl⟩ HO3.out ⟨_, HM2.out, HG3.out⟩, HT', Lib.hid (by rw [hL.out, HRr.out]; simp [tcons])⟩
            case measure => simp [intOf]; omega
          | false =>
            have hr := hTR.out.quote0 hlt hc hqE'
            have HRr := Lib.hid hr
            clear hr hle2 hqE'
            go_wp2_with (first
              | (go_at_call 139; refine (HQ.out _).mono ?_; rintro e w2 ⟨rfl, hm2⟩; have HM2 := Lib.hid hm2; clear hm2)
              | (go_at_call 140; refine (HWD.out _).mono ?_; rintro e w' ⟨rfl, rfl⟩)
              | (go_at_call 141; refine (HMK.out _).mono ?_; rintro e w' ⟨rfl, rfl⟩)
              | (at_builtin; refine wpL_appendN (us := [_, _, _]) rfl (.tmp 71) (.tmp 75) 96 rfl ti27 rfl (hW.out.1) rfl rfl rfl (by omega) (by unfold maxLen; omega) ?_; intro a3 c3 w3 hO3 hG3 _
                 have HO3 := Lib.hid hO3; have HG3 := Lib.hid hG3; clear hO3 hG3))
            go_ret3
            rw [hL.out, HRr.out]
            exact ⟨a, c0, by simp, by simpa using hW.out.1.mod HM2.out (fun _ _ => id), hW.out.2.2.trans HM2.out, hW.out.2.1⟩
        have hpl : plainB c := ⟨h32, h9, h10, h13, h37, h34⟩
        have HP : Hid (plainB s[k]) := by unfold Hid; rw [hc]; exact hpl
        obtain ⟨n0, hn0⟩ : ∃ n0, s[k].toNat = n0 := ⟨_, rfl⟩
        have hn1 : c.toNat = n0 := by rw [← hc, hn0]
        have e32 : ((n0 : Int) == 32) = false := by have : n0 ≠ 32 := fun h => h32 (by rw [← UInt8.toNat_inj, hn1, h]; rfl); simp; omega
        have e9 : ((n0 : Int) == 9) = false := by have : n0 ≠ 9 := fun h => h9 (by rw [← UInt8.toNat_inj, hn1, h]; rfl); simp; omega
        have e10 : ((n0 : Int) == 10) = false := by have : n0 ≠ 10 := fun h => h10 (by rw [← UInt8.toNat_inj, hn1, h]; rfl); simp; omega
        have e13 : ((n0 : Int) == 13) = false := by have : n0 ≠ 13 := fun h => h13 (by rw [← UInt8.toNat_inj, hn1, h]; rfl); simp; omega
        have e37 : ((n0 : Int) == 37) = false := by have : n0 ≠ 37 := fun h => h37 (by rw [← UInt8.toNat_inj, hn1, h]; rfl); simp; omega
        have e34 : ((n0 : Int) == 34) = false := by have : n0 ≠ 34 := fun h => h34 (by rw [← UInt8.toNat_inj, hn1, h]; rfl); simp; omega
        clear h32 h9 h10 h13 h37 h34 hpl hc hn1
        have HWD := Lib.hid (fun w => refWord_any s k w hk (by omega))
        have HMK := Lib.hid (fun w => refMark_any s k w hlt (by omega))
        have hpos := wordL_pos hk
        have hTw := fun kd e h1 h2 => hTR.out.word (k := kd) (e := e) hlt HP.out h1 h2
        have hTm := fun kd n h0 h1 h2 => hTR.out.mark (k := kd) (n := n) hlt HP.out h0 h1 h2
        have hTn := fun h0 h1 => hTR.out.none hlt HP.out h0 h1
        have hml := markL_le (s.data.toList.drop k)
        rw [List.length_drop, ← Lib.size_eq] at hml
        generalize hgw : wordL s k = g at *
        generalize hgm : markL (s.data.toList.drop k) = gm at *
        obtain ⟨kd, en⟩ := g
        obtain ⟨mk, mn⟩ := gm
        simp only at HWD HMK hpos hTw hTm hTn hml
        by_cases hkd : kd = 0
        · subst hkd
          by_cases hmk : mk = 0
          · subst hmk
            have HRr := Lib.hid (hTn rfl rfl)
            clear hTw hTm hTn hpos hgw hgm hml
            go_wp2_with (first
              | (go_at_call 139; refine (HQ.out _).mono ?_; rintro e w2 ⟨rfl, hm2⟩; have HM2 := Lib.hid hm2; clear hm2)
              | (go_at_call 140; refine (HWD.out _).mono ?_; rintro e w' ⟨rfl, rfl⟩)
              | (go_at_call 141; refine (HMK.out _).mono ?_; rintro e w' ⟨rfl, rfl⟩)
              | (at_builtin; refine wpL_appendN (us := [_, _, _]) rfl (.tmp 71) (.tmp 75) 96 rfl ti27 rfl (hW.out.1) rfl rfl rfl (by omega) (by unfold maxLen; omega) ?_; intro a3 c3 w3 hO3 hG3 _
                 have HO3 := Lib.hid hO3; have HG3 := Lib.hid hG3; clear hO3 hG3))
            go_ret3
            rw [hL.out, HRr.out]
            exact ⟨a, c0, by simp, by simpa using hW.out.1, hW.out.2.2, hW.out.2.1⟩
          · obtain ⟨r', hr, hT'⟩ := hTm _ _ rfl rfl hmk
            have HT' := Lib.hid hT'
            have HRr := Lib.hid hr
            have hmb : ((mk : Int) == 0) = false := by simp; omega
            have hmp := hml.2.2 hmk
            have hml1 := hml.1
            clear hr hT' hTw hTm hTn hpos hgw hgm hml hmk
            go_wp2_with (first
              | (go_at_call 139; refine (HQ.out _).mono ?_; rintro e w2 ⟨rfl, hm2⟩; have HM2 := Lib.hid hm2; clear hm2)
              | (go_at_call 140; refine (HWD.out _).mono ?_; rintro e w' ⟨rfl, rfl⟩)
              | (go_at_call 141; refine (HMK.out _).mono ?_; rintro e w' ⟨rfl, rfl⟩)
              | (at_builtin; refine wpL_appendN (us := [_, _, _]) rfl (.tmp 107) (.tmp 111) 96 rfl ti27 rfl (hW.out.1) rfl rfl rfl (by omega) (by unfold maxLen; omega) ?_; intro a3 c3 w3 hO3 hG3 _
                 have HO3 := Lib.hid hO3; have HG3 := Lib.hid hG3; clear hO3 hG3))
            go_roundw
            case rel => exact ⟨k + mn, ts ++ [⟨mk, ⟨#[]⟩, k⟩], a3, c3, r', by simp, by go_num, by omega, HNX.out _ _ _ ⟨mk, ⟨#[]⟩, k⟩ _ ⟨by simp, rfl⟩ HO3.out ⟨_, Mod.refl _ _, HG3.out⟩, HT', Lib.hid (by rw [hL.out, HRr.out]; simp [tcons])⟩
            case measure => simp [intOf]; omega
        · obtain ⟨r', hr, hT'⟩ := hTw _ _ rfl hkd
          have HT' := Lib.hid hT'
          have HRr := Lib.hid hr
          have hkp : 0 < kd := by omega
          obtain ⟨hp1, hp2, _⟩ := hpos hkd
          clear hr hT' hTw hTm hTn hpos hgw hgm hml hkd HMK
          go_wp2_with (first
            | (go_at_call 139; refine (HQ.out _).mono ?_; rintro e w2 ⟨rfl, hm2⟩; have HM2 := Lib.hid hm2; clear hm2)
            | (go_at_call 140; refine (HWD.out _).mono ?_; rintro e w' ⟨rfl, rfl⟩)
            | (go_at_call 141; refine (HMK.out _).mono ?_; rintro e w' ⟨rfl, rfl⟩)
            | (at_builtin; refine wpL_appendN (us := [_, _, _]) rfl (.tmp 86) (.tmp 94) 96 rfl ti27 rfl (hW.out.1) rfl rfl rfl (by omega) (by unfold maxLen; omega) ?_; intro a3 c3 w3 hO3 hG3 _
               have HO3 := Lib.hid hO3; have HG3 := Lib.hid hG3; clear hO3 hG3))
          go_roundw
          case rel => exact ⟨en, ts ++ [⟨kd, s.extract k en, k⟩], a3, c3, r', by simp, rfl, hp2, HNX.out _ _ _ ⟨kd, s.extract k en, k⟩ _ ⟨by simp, rfl⟩ HO3.out ⟨_, Mod.refl _ _, HG3.out⟩, HT', Lib.hid (by rw [hL.out, HRr.out]; simp [tcons])⟩
          case measure => simp [intOf]; omega
      · obtain rfl : k = s.size := by omega
        have hr := hTR.out.out (by omega)
        subst hr
        have HR := Lib.hid hL.out
        go_wp2
        go_ret3
        rw [HR.out]
        exact ⟨a, c0, by simp, by simpa using hW.out.1, hW.out.2.2, hW.out.2.1⟩
end Go.Proofs.YtgplagdehfhffaaDoor
