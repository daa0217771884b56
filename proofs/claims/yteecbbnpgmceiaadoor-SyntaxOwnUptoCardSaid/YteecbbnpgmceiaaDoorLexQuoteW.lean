import Derived.Test.YteecbbnpgmceiaaDoorScanL
import Derived.Test.YteecbbnpgmceiaaDoorQuoted
import Derived.WalkMore
namespace Go.Proofs.YteecbbnpgmceiaaDoor
open Go Go.RowKit Go.Mine
set_option maxHeartbeats 1000000
set_option maxRecDepth 100000
set_option linter.unusedVariables false

theorem buWB {w w1 : World} {a : Option Addr} {l : List UInt8} (c : UInt8) (hb : BuAt w1 w.heap.size a l) (hF : ∀ b, blk a = some b → w.heap.size ≤ b) (hM : Mod (fun _ => False) w w1) (hl : l.length < 2 ^ 40) :
    Calls Tryd.prog 177 #[.pointer (some ⟨w.heap.size, 0, none⟩), .int .u8 c.toNat] w1 fun e w' => e = .returned .nilIface ∧
      ∃ a', Hid (BuAt w' w.heap.size a' (l ++ [c])) ∧ Hid (∀ b, blk a' = some b → w.heap.size ≤ b) ∧ Hid (Mod (fun _ => False) w w') := by
  refine (writeByte_any w.heap.size a l c w1 hb hl).mono ?_
  rintro e w' ⟨h1, a', h2, h3⟩
  exact ⟨h1, a', h2, (Bu_mod (Nat.le_refl _) hF hM h3).2, (Bu_mod (Nat.le_refl _) hF hM h3).1⟩
theorem buWS {w w1 : World} {a : Option Addr} {l : List UInt8} (t : ByteArray) (hb : BuAt w1 w.heap.size a l) (hF : ∀ b, blk a = some b → w.heap.size ≤ b) (hM : Mod (fun _ => False) w w1) (hl : l.length + t.size < 2 ^ 40) :
    Calls Tryd.prog 170 #[.pointer (some ⟨w.heap.size, 0, none⟩), .string t] w1 fun e w' => e = .returned (.tuple #[.int .i64 t.size, .nilIface]) ∧
      ∃ a', Hid (BuAt w' w.heap.size a' (l ++ t.data.toList)) ∧ Hid (∀ b, blk a' = some b → w.heap.size ≤ b) ∧ Hid (Mod (fun _ => False) w w') := by
  refine (writeString_any w.heap.size a l t w1 hb hl).mono ?_
  rintro e w' ⟨h1, a', h2, h3⟩
  exact ⟨h1, a', h2, (Bu_mod (Nat.le_refl _) hF hM h3).2, (Bu_mod (Nat.le_refl _) hF hM h3).1⟩
theorem buS {w w1 : World} {a : Option Addr} {l : List UInt8} (hb : BuAt w1 w.heap.size a l) (hF : ∀ b, blk a = some b → w.heap.size ≤ b) (hM : Mod (fun _ => False) w w1) (hl : l.length < 2 ^ 40) (hz : l = [] → a = none) :
    Calls Tryd.prog 135 #[.pointer (some ⟨w.heap.size, 0, none⟩)] w1 fun e w' => e = .returned (.string ⟨l.toArray⟩) ∧ Mod (fun _ => False) w w' := by
  refine (bString_any w.heap.size a l w1 hb hl hz).mono ?_
  rintro e w' ⟨h1, h2⟩
  refine ⟨h1, hM.step h2 (fun i hi hs => ?_)⟩
  rcases hs with rfl | hs
  · omega
  · have := hF i hs; omega
theorem QRes.shift0 {s : ByteArray} {r : List UInt8 × Nat × Bool} (h : QRes s 0 [] r) : r.2.1 ≤ s.size := by
  obtain ⟨f, hf, rfl⟩ := h
  exact (qGo_le f 0 [] (by omega)).2.1

theorem lexQuoteW_any (s : ByteArray) (w : World) (hT : Lib.Utf8Tabs 1 2 w) (hs : s.size < 2 ^ 30) :
    Calls Tryd.prog 148 #[.string s] w fun e w' => (∃ x n ok, e = .returned (.tuple #[.string ⟨List.toArray x⟩, .int .i64 (n : Nat), .bool ok]) ∧ QRes s 0 [] (x, n, ok)) ∧ Mod (fun _ => False) w w' := by
  have H0 := Lib.hid (BuAt.fresh w)
  have M0 := Lib.hid ((Mod.refl (fun _ => False) w).alloc (.cells #[.pointer none, .slice none 0 0] 197))
  have HT := Lib.hid hT; clear hT
  obtain ⟨r, hr⟩ : ∃ r, QRes s 0 [] r := ⟨_, quoteE_res s 0⟩
  have HR0 := Lib.hid hr; clear hr
  go_enter Tryd.func148, Tryd.ntmps148
  go_wp2
  go_step3
  go_wp2
  go_step3
  go_wp2
  go_loopw [6] (fun i wr => ∃ (k : Nat) (a : Option Addr) (acc : List UInt8), i = .int .i64 k ∧ k ≤ s.size ∧ acc.length ≤ k ∧ Hid (BuAt wr w.heap.size a acc) ∧ Hid (∀ b, blk a = some b → w.heap.size ≤ b) ∧ Hid (Mod (fun _ => False) w wr) ∧ Hid (acc = [] → a = none) ∧ Hid (QRes s k acc r)) (fun i _ => s.size - (intOf i).toNat)
  case atStart => exact ⟨0, none, [], rfl, by omega, by simp, H0, (fun b h => by simp at h), M0, (fun _ => rfl), HR0⟩
  case round =>
    obtain ⟨k, a, acc, rfl, hk, hacc, hB, hF, hM, hz, hR⟩ := hrel
    have fin : Hid (∀ r', r = r' → QRes s 0 [] r') := fun r' e => e ▸ HR0.out
    by_cases hlt : k < s.size
    · have HWB := Lib.hid (fun (c : UInt8) (w1 : World) (h1 : BuAt w1 w.heap.size a acc) (hM : Mod (fun _ => False) w w1) => buWB c h1 hF.out hM (by omega))
      have HWS0 : Hid (∀ (t : ByteArray) (w1 : World), t.size ≤ s.size → BuAt w1 w.heap.size a acc → Mod (fun _ => False) w w1 → Calls Tryd.prog 170 #[.pointer (some ⟨w.heap.size, 0, none⟩), .string t] w1 fun e w' => e = .returned (.tuple #[.int .i64 t.size, .nilIface]) ∧
          ∃ a', Hid (BuAt w' w.heap.size a' (acc ++ t.data.toList)) ∧ Hid (∀ b, blk a' = some b → w.heap.size ≤ b) ∧ Hid (Mod (fun _ => False) w w')) := fun t w1 ht h1 hM => buWS t h1 hF.out hM (by omega)
      have HS := Lib.hid (buS hB.out hF.out hM.out (by omega) hz.out)
      have hQ := Lib.hid (fun h => hR.out.quote hlt h)
      have hE0 := Lib.hid (fun h h2 => hR.out.esc0 hlt h h2)
      have hE1 := Lib.hid (fun h h2 => hR.out.esc1 hlt h h2)
      have hO := Lib.hid (fun h1 h2 h3 => hR.out.one hlt h1 h2 h3)
      have hBd := Lib.hid (fun h1 h2 h3 h4 => hR.out.bad hlt h1 h2 h3 h4)
      have hRu := Lib.hid (fun h1 h2 h3 h4 => hR.out.rune hlt h1 h2 h3 h4)
      obtain ⟨c, hc⟩ : ∃ c, s[k] = c := ⟨_, rfl⟩
      rw [hc] at hQ hE0 hE1 hO hBd hRu
      by_cases h34 : c = 34
      · subst h34
        clear HWB HWS0 hE0 hE1 hO hBd hRu
        go_wp2_with (first
          | (go_at_call 177; refine (HWB.out _ _ ).mono ?_; rintro e w3 ⟨rfl, a3, hB3, hF3, hM3⟩)
          | (go_at_call 170; refine (HWS.out () _ ).mono ?_; rintro e w3 ⟨rfl, a3, hB3, hF3, hM3⟩)
          | (go_at_call 176; refine (HE.out _).mono ?_; rintro e w2 ⟨rfl, hm2⟩; have HM2 := Lib.hid hm2; clear hm2)
          | (go_at_call 178; refine (HD.out _ ).mono ?_; rintro e w2 ⟨rfl, hm2⟩; have HM2 := Lib.hid hm2; clear hm2)
          | (go_at_call 135; refine HS.out.mono ?_; rintro e w2 ⟨rfl, hm2⟩; have HM2 := Lib.hid hm2; clear hm2))
        (try rw [Exit.noGoto_ret]); go_ret3
        exact ⟨⟨_, _, _, rfl, by have := fin.out _ (hQ.out (by trivial)); simpa using this⟩, HM2.out⟩
      · by_cases h92 : c = 92
        · subst h92
          clear hQ hO hBd hRu HWS0 HS
          have HE : Hid (∀ w, Calls Tryd.prog 176 #[.string (s.extract (k + 1) s.size)] w fun e w' => e = .returned (.tuple #[.int .u8 (escL (s.data.toList.drop (k + 1))).1.toNat, .int .i64 (escL (s.data.toList.drop (k + 1))).2]) ∧ Mod (fun _ => False) w w') := fun w => by
            have := escape_any (s.extract (k + 1) s.size) w (by rw [ext_size]; omega)
            rw [ext_drop] at this
            exact this
          have hle := escL_le (s.data.toList.drop (k + 1))
          rw [List.length_drop, ← Lib.size_eq] at hle
          generalize escL (s.data.toList.drop (k + 1)) = g at *
          obtain ⟨x, n⟩ := g
          simp only at HE hle hE0 hE1
          by_cases hn : n = 0
          · subst hn
            clear HWB hE1 hle
            go_wp2_with (first
              | (go_at_call 177; refine (HWB.out _ _ ).mono ?_; rintro e w3 ⟨rfl, a3, hB3, hF3, hM3⟩)
              | (go_at_call 170; refine (HWS.out () _ ).mono ?_; rintro e w3 ⟨rfl, a3, hB3, hF3, hM3⟩)
              | (go_at_call 176; refine (HE.out _).mono ?_; rintro e w2 ⟨rfl, hm2⟩; have HM2 := Lib.hid hm2; clear hm2)
              | (go_at_call 178; refine (HD.out _ ).mono ?_; rintro e w2 ⟨rfl, hm2⟩; have HM2 := Lib.hid hm2; clear hm2)
              | (go_at_call 135; refine HS.out.mono ?_; rintro e w2 ⟨rfl, hm2⟩; have HM2 := Lib.hid hm2; clear hm2))
            (try rw [Exit.noGoto_ret]); go_ret3
            exact ⟨⟨[], _, _, rfl, fin.out _ (hE0.out (by trivial) (by trivial))⟩, hM.out.trans HM2.out⟩
          · have hnb : ((n : Int) == 0) = false := by simp; omega
            have HN := Lib.hid hn; clear hE0 hn
            go_wp2_with (first
              | (go_at_call 177; refine (HWB.out _ _ (hB.out.mod0 HM2.out) (hM.out.trans HM2.out)).mono ?_; rintro e w3 ⟨rfl, a3, hB3, hF3, hM3⟩)
              | (go_at_call 170; refine (HWS.out () _ (hB.out.mod0 HM2.out) (hM.out.trans HM2.out)).mono ?_; rintro e w3 ⟨rfl, a3, hB3, hF3, hM3⟩)
              | (go_at_call 176; refine (HE.out _).mono ?_; rintro e w2 ⟨rfl, hm2⟩; have HM2 := Lib.hid hm2; clear hm2)
              | (go_at_call 178; refine (HD.out _ ).mono ?_; rintro e w2 ⟨rfl, hm2⟩; have HM2 := Lib.hid hm2; clear hm2)
              | (go_at_call 135; refine HS.out.mono ?_; rintro e w2 ⟨rfl, hm2⟩; have HM2 := Lib.hid hm2; clear hm2))
            go_roundw
            case rel => exact ⟨k + 1 + n, a3, acc ++ [x], by go_num, by omega, by simp; omega, hB3, hF3, hM3, Lib.hid (fun h => absurd h (by simp)), hE1.out (by trivial) HN.out⟩
            case measure => simp [intOf]; omega
        · obtain ⟨n, hn⟩ : ∃ n, n = c.toNat := ⟨_, rfl⟩
          have hn256 : n < 256 := by rw [hn]; exact c.toNat_lt
          have t34 : n ≠ 34 := fun h => h34 (by rw [← UInt8.toNat_inj, ← hn, h]; rfl)
          have e34 : ((n : Int) == 34) = false := by simp; omega
          have t92 : n ≠ 92 := fun h => h92 (by rw [← UInt8.toNat_inj, ← hn, h]; rfl)
          have e92 : ((n : Int) == 92) = false := by simp; omega
          have hcn : s[k].toNat = n := by rw [hc, hn]
          have HH34 := Lib.hid h34; have HH92 := Lib.hid h92
          clear hQ hE0 hE1 HS
          rw [← hn] at hO hBd hRu
          by_cases hpr : 32 ≤ n ∧ n ≤ 126
          · obtain ⟨hp1, hp2⟩ := hpr
            have HWB1 := HWB.out c
            rw [← hn] at HWB1
            clear HWB
            have HWB2 : Hid (∀ (_ : Unit) (w1 : World), _) := Lib.hid (fun (_ : Unit) w1 => HWB1 w1)
            clear HWB1 hBd hRu HWS0 h34 h92 hn hc t34 t92
            go_wp2_with (go_at_call 177; refine (HWB2.out () _ hB.out hM.out).mono ?_; rintro e w3 ⟨rfl, a3, hB3, hF3, hM3⟩)
            go_roundw
            case rel => exact ⟨k + 1, a3, acc ++ [c], by go_num, by omega, by simp; omega, hB3, hF3, hM3, Lib.hid (fun h => absurd h (by simp)), hO.out HH34.out HH92.out ⟨hp1, hp2⟩⟩
            case measure => simp [intOf]; omega
          · have HD : Hid (∀ w, Lib.Utf8Tabs 1 2 w → Calls Tryd.prog 178 #[.string (s.extract k s.size)] w fun e w' => e = .returned (.tuple #[.int .i32 (Utf8.decode s k).1, .int .i64 (Utf8.decode s k).2]) ∧ Mod (fun _ => False) w w') := fun w hT => by
              have := decode_any (s.extract k s.size) w hT (by rw [ext_size]; omega)
              rw [ext_decode s k 0 hk] at this
              exact this
            have hwd := decode_width s k hlt
            have hrl := decode_le s k
            generalize hg : Utf8.decode s k = g at *
            obtain ⟨rr, m⟩ := g
            simp only at HD hwd hrl hBd hRu
            have HG := Lib.hid hg; clear hg
            have HPR := Lib.hid hpr
            have hnp : n < 32 ∨ 126 < n := by omega
            clear hpr hO HWB h34 h92 hn hc t34 t92
            by_cases hd : rr < 128 ∨ (rr = 65533 ∧ m = 1)
            · have HR2 := Lib.hid (hBd.out HH34.out HH92.out HPR.out hd)
              clear hBd hRu HWS0
              have hbad : rr < 128 ∨ 128 ≤ rr ∧ rr = 65533 ∧ m = 1 := by omega
              clear hd
              rcases hnp with hnp | hnp
              all_goals
                rcases hbad with h1 | ⟨h0, rfl, rfl⟩
                all_goals
                  go_wp2_with (first
                    | (go_at_call 177; refine (HWB.out _ _ ).mono ?_; rintro e w3 ⟨rfl, a3, hB3, hF3, hM3⟩)
                    | (go_at_call 170; refine (HWS.out () _ ).mono ?_; rintro e w3 ⟨rfl, a3, hB3, hF3, hM3⟩)
                    | (go_at_call 176; refine (HE.out _).mono ?_; rintro e w2 ⟨rfl, hm2⟩; have HM2 := Lib.hid hm2; clear hm2)
                    | (go_at_call 178; refine (HD.out _ (tabs_mod HT.out hM.out)).mono ?_; rintro e w2 ⟨rfl, hm2⟩; have HM2 := Lib.hid hm2; clear hm2)
                    | (go_at_call 135; refine HS.out.mono ?_; rintro e w2 ⟨rfl, hm2⟩; have HM2 := Lib.hid hm2; clear hm2))
                  (try rw [Exit.noGoto_ret]); go_ret3
                  exact ⟨⟨[], _, _, rfl, fin.out _ HR2.out⟩, hM.out.trans HM2.out⟩
            · have HR2 := Lib.hid (hRu.out HH34.out HH92.out HPR.out hd)
              have hex : (s.extract k (k + m)).data.toList = (s.data.toList.drop k).take m := by rw [ext_data, Nat.add_sub_cancel_left]
              have hexs : (s.extract k (k + m)).size = m := by
                rw [Lib.size_eq, hex, List.length_take, List.length_drop, ← Lib.size_eq]; omega
              have hlen : ((s.data.toList.drop k).take m).length = m := by rw [← hex, ← Lib.size_eq, hexs]
              have HWS : Hid (∀ (_ : Unit) (w1 : World), BuAt w1 w.heap.size a acc → Mod (fun _ => False) w w1 → Calls Tryd.prog 170 #[.pointer (some ⟨w.heap.size, 0, none⟩), .string (s.extract k (k + m))] w1 fun e w' => e = .returned (.tuple #[.int .i64 m, .nilIface]) ∧
                  ∃ a', Hid (BuAt w' w.heap.size a' (acc ++ (s.data.toList.drop k).take m)) ∧ Hid (∀ b, blk a' = some b → w.heap.size ≤ b) ∧ Hid (Mod (fun _ => False) w w')) := fun _ w1 h1 h2 => by
                have := HWS0.out (s.extract k (k + m)) w1 (by rw [hexs]; omega) h1 h2
                rw [hex, hexs] at this
                exact this
              generalize (s.data.toList.drop k).take m = piece at *
              have HLE := Lib.hid hlen
              clear hBd hRu HWS0 hex hexs hlen
              have hgood : 128 ≤ rr ∧ rr ≠ 65533 ∨ 128 ≤ rr ∧ rr = 65533 ∧ m ≠ 1 := by omega
              clear hd
              rcases hnp with hnp | hnp
              all_goals
                rcases hgood with ⟨h1, h2⟩ | ⟨h1, rfl, h2⟩
                · have hb1 : ((rr : Int) == 65533) = false := by simp; omega
                  clear h2
                  go_wp2_with (first
                    | (go_at_call 177; refine (HWB.out _ _ (hB.out.mod0 HM2.out) (hM.out.trans HM2.out)).mono ?_; rintro e w3 ⟨rfl, a3, hB3, hF3, hM3⟩)
                    | (go_at_call 170; refine (HWS.out () _ (hB.out.mod0 HM2.out) (hM.out.trans HM2.out)).mono ?_; rintro e w3 ⟨rfl, a3, hB3, hF3, hM3⟩)
                    | (go_at_call 176; refine (HE.out _).mono ?_; rintro e w2 ⟨rfl, hm2⟩; have HM2 := Lib.hid hm2; clear hm2)
                    | (go_at_call 178; refine (HD.out _ (tabs_mod HT.out hM.out)).mono ?_; rintro e w2 ⟨rfl, hm2⟩; have HM2 := Lib.hid hm2; clear hm2)
                    | (go_at_call 135; refine HS.out.mono ?_; rintro e w2 ⟨rfl, hm2⟩; have HM2 := Lib.hid hm2; clear hm2))
                  have hpl := HLE.out
                  go_roundw
                  case rel => exact ⟨k + m, a3, acc ++ piece, by go_num, by omega, by simp; omega, hB3, hF3, hM3, Lib.hid (fun h => absurd h (by simp; intro _ h; rw [h] at hpl; simp at hpl; omega)), HR2.out⟩
                  case measure => simp [intOf]; omega
                · have hb1 : ((m : Int) == 1) = false := by simp; omega
                  clear h2
                  go_wp2_with (first
                    | (go_at_call 177; refine (HWB.out _ _ (hB.out.mod0 HM2.out) (hM.out.trans HM2.out)).mono ?_; rintro e w3 ⟨rfl, a3, hB3, hF3, hM3⟩)
                    | (go_at_call 170; refine (HWS.out () _ (hB.out.mod0 HM2.out) (hM.out.trans HM2.out)).mono ?_; rintro e w3 ⟨rfl, a3, hB3, hF3, hM3⟩)
                    | (go_at_call 176; refine (HE.out _).mono ?_; rintro e w2 ⟨rfl, hm2⟩; have HM2 := Lib.hid hm2; clear hm2)
                    | (go_at_call 178; refine (HD.out _ (tabs_mod HT.out hM.out)).mono ?_; rintro e w2 ⟨rfl, hm2⟩; have HM2 := Lib.hid hm2; clear hm2)
                    | (go_at_call 135; refine HS.out.mono ?_; rintro e w2 ⟨rfl, hm2⟩; have HM2 := Lib.hid hm2; clear hm2))
                  have hpl := HLE.out
                  go_roundw
                  case rel => exact ⟨k + m, a3, acc ++ piece, by go_num, by omega, by simp; omega, hB3, hF3, hM3, Lib.hid (fun h => absurd h (by simp; intro _ h; rw [h] at hpl; simp at hpl; omega)), HR2.out⟩
                  case measure => simp [intOf]; omega
    · obtain rfl : k = s.size := by omega
      have HR2 := Lib.hid (hR.out.out (by omega))
      go_wp2
      (try rw [Exit.noGoto_ret]); go_ret3
      exact ⟨⟨[], _, _, rfl, fin.out _ HR2.out⟩, hM.out⟩
end Go.Proofs.YteecbbnpgmceiaaDoor
