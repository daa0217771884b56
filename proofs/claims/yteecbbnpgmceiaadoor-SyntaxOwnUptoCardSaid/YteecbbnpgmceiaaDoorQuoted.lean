import Derived.Test.YteecbbnpgmceiaaDoorBuild
namespace Go.Proofs.YteecbbnpgmceiaaDoor
open Go Go.RowKit Go.Mine
set_option maxHeartbeats 400000
set_option maxRecDepth 100000
set_option linter.unusedVariables false

def fig (n : UInt8) : UInt8 := if n < 10 then 48 + n else 87 + n
/-- a byte as it stands in a text in quotes -/
def q1 (c : UInt8) : List UInt8 :=
  if c = 34 ∨ c = 92 then [92, c] else if c = 10 then [92, 110] else if c = 9 then [92, 116] else if 32 ≤ c ∧ c ≤ 126 then [c] else [92, 120, fig (c / 16), fig (c % 16)]
def quotedL (l : List UInt8) : List UInt8 := 34 :: l.flatMap q1 ++ [34]
theorem q1_len (c : UInt8) : (q1 c).length ≤ 4 := by
  unfold q1
  split
  · simp
  · split
    · simp
    · split
      · simp
      · split <;> simp
theorem q1s_len (l : List UInt8) : (l.flatMap q1).length ≤ 4 * l.length := by
  induction l with
  | nil => simp
  | cons c l ih => have := q1_len c; simp only [List.flatMap_cons, List.length_append, List.length_cons]; omega

theorem ext1 (s : ByteArray) {k : Nat} (h : k < s.size) : (s.extract k (k + 1)).data.toList = [s[k]] := by
  rw [ByteArray.data_extract, Array.toList_extract]
  simp only [List.extract, Nat.add_sub_cancel_left]
  rw [List.drop_eq_getElem_cons (by simpa using h)]
  rfl
def hexBA : ByteArray := ⟨#[48, 49, 50, 51, 52, 53, 54, 55, 56, 57, 97, 98, 99, 100, 101, 102]⟩
theorem hexx : ∀ a : Fin 16, (hexBA.extract a.1 (a.1 + 1)).data.toList = [fig (UInt8.ofNat a.1)] := by decide +kernel
theorem q1_hex {c : UInt8} {n : Nat} (hn : n = c.toNat) : (⟨#[92, 120]⟩ ++ hexBA.extract (n / 16) (n / 16 + 1) ++ hexBA.extract (n % 16) (n % 16 + 1) : ByteArray).data.toList = [92, 120, fig (c / 16), fig (c % 16)] := by
  have hn256 : n < 256 := by rw [hn]; exact c.toNat_lt
  have h1 := hexx ⟨n / 16, by omega⟩
  have h2 := hexx ⟨n % 16, by omega⟩
  simp only at h1 h2
  have e1 : UInt8.ofNat (n / 16) = c / 16 := by
    rw [← UInt8.toNat_inj, UInt8.toNat_div, UInt8.toNat_ofNat', ← hn]
    show (n / 16) % 256 = n / 16
    omega
  have e2 : UInt8.ofNat (n % 16) = c % 16 := by
    rw [← UInt8.toNat_inj, UInt8.toNat_mod, UInt8.toNat_ofNat', ← hn]
    show (n % 16) % 256 = n % 16
    omega
  rw [ByteArray.data_append, ByteArray.data_append, Array.toList_append, Array.toList_append, h1, h2, e1, e2]
  rfl
theorem Bu_mod {w w1 : World} {p : Nat} {a1 : Option Addr} (hp : w.heap.size ≤ p) {wa : World} {a : Option Addr} (ha : ∀ b, blk a = some b → w.heap.size ≤ b) (hm : Mod (fun _ => False) w wa) (hg : BuGo wa p a w1 a1) :
    Mod (fun _ => False) w w1 ∧ ∀ b, blk a1 = some b → w.heap.size ≤ b := by
  refine ⟨hm.step hg.mod (fun i hi hs => ?_), fun b hb => ?_⟩
  · rcases hs with rfl | hs
    · omega
    · have := ha i hs; omega
  · rcases hg.pos with e | ⟨b', e, hb'⟩
    · rw [e] at hb; exact ha b hb
    · rw [e] at hb; cases hb; have := hm.size; omega

theorem lexQuoted_any (s : ByteArray) (w : World) (hs : s.size < 2 ^ 30) :
    Calls Tryd.prog 191 #[.string s] w fun e w' => e = .returned (.string ⟨(quotedL s.data.toList).toArray⟩) ∧ Mod (fun _ => False) w w' := by
  have H0 := Lib.hid (BuAt.fresh w)
  have M0 := Lib.hid ((Mod.refl (fun _ => False) w).alloc (.cells #[.pointer none, .slice none 0 0] 197))
  go_enter Tryd.func191, Tryd.ntmps191
  go_wp2_with (first
    | (go_at_call 177; refine (writeByte_any w.heap.size none [] 34 _ H0.out (by simp)).mono ?_; rintro e w1 ⟨rfl, a1, h1, hg1⟩
       have H1 := Lib.hid h1; have HG1 := Lib.hid hg1; clear h1 hg1))
  go_loopw [9] (fun i wr => ∃ (k : Nat) (a : Option Addr), i = .int .i64 k ∧ k ≤ s.size ∧ Hid (BuAt wr w.heap.size a (34 :: (s.data.toList.take k).flatMap q1)) ∧ Hid (∀ b, blk a = some b → w.heap.size ≤ b) ∧ Hid (Mod (fun _ => False) w wr)) (fun i _ => s.size - (intOf i).toNat)
  case atStart => exact ⟨0, a1, rfl, by omega, H1, (Bu_mod (Nat.le_refl _) (by intro b h; simp at h) M0.out HG1.out).2, (Bu_mod (Nat.le_refl _) (by intro b h; simp at h) M0.out HG1.out).1⟩
  case round =>
    obtain ⟨k, a, rfl, hk, hB, hF, hM⟩ := hrel
    by_cases hlt : k < s.size
    · have hstep : (s.data.toList.take (k + 1)).flatMap q1 = (s.data.toList.take k).flatMap q1 ++ q1 s[k] := by
        rw [List.take_succ_eq_append_getElem (by simpa using hlt), List.flatMap_append]
        simp; rfl
      have hlen := q1s_len (s.data.toList.take k)
      generalize (s.data.toList.take k).flatMap q1 = bs at *
      obtain ⟨c, hc⟩ : ∃ c, s[k] = c := ⟨_, rfl⟩
      rw [hc] at hstep
      have HST := Lib.hid hstep; clear hstep
      have hlb : bs.length ≤ 4 * k := by simp only [List.length_take] at hlen; omega
      clear hlen
      have HWS : Hid (∀ (t : ByteArray) (w1 : World), q1 c = t.data.toList → BuAt w1 w.heap.size a (34 :: bs) → Mod (fun _ => False) w w1 →
          Calls Tryd.prog 170 #[.pointer (some ⟨w.heap.size, 0, none⟩), .string t] w1 fun e w' => e = .returned (.tuple #[.int .i64 t.size, .nilIface]) ∧
            ∃ a', Hid (BuAt w' w.heap.size a' (34 :: (s.data.toList.take (k + 1)).flatMap q1)) ∧ Hid (∀ b, blk a' = some b → w.heap.size ≤ b) ∧ Hid (Mod (fun _ => False) w w')) := fun t w1 hq hb hm => by
        have hts : t.size ≤ 4 := by have := q1_len c; rw [hq] at this; rw [Lib.size_eq]; exact this
        refine (writeString_any w.heap.size a (34 :: bs) t w1 hb (by simp only [List.length_cons]; omega)).mono ?_
        rintro e w' ⟨h1, a', h2, h3⟩
        refine ⟨h1, a', ?_, (Bu_mod (Nat.le_refl _) hF.out hm h3).2, (Bu_mod (Nat.le_refl _) hF.out hm h3).1⟩
        unfold Hid
        rw [HST.out, hq]
        simpa using h2
      have HWB : Hid (∀ (w1 : World), q1 c = [c] → BuAt w1 w.heap.size a (34 :: bs) → Mod (fun _ => False) w w1 →
          Calls Tryd.prog 177 #[.pointer (some ⟨w.heap.size, 0, none⟩), .int .u8 c.toNat] w1 fun e w' => e = .returned .nilIface ∧
            ∃ a', Hid (BuAt w' w.heap.size a' (34 :: (s.data.toList.take (k + 1)).flatMap q1)) ∧ Hid (∀ b, blk a' = some b → w.heap.size ≤ b) ∧ Hid (Mod (fun _ => False) w w')) := fun w1 hq hb hm => by
        refine (writeByte_any w.heap.size a (34 :: bs) c w1 hb (by simp only [List.length_cons]; omega)).mono ?_
        rintro e w' ⟨h1, a', h2, h3⟩
        refine ⟨h1, a', ?_, (Bu_mod (Nat.le_refl _) hF.out hm h3).2, (Bu_mod (Nat.le_refl _) hF.out hm h3).1⟩
        unfold Hid
        rw [HST.out, hq]
        simpa using h2
      have HX := Lib.hid (ext1 s hlt)
      by_cases h34 : c = 34
      · subst h34
        go_wp2_with (first
          | (go_at_call 170; refine (HWS.out _ _ (by rw [ByteArray.data_append, Array.toList_append, HX.out, hc]; rfl) hB.out hM.out).mono ?_; rintro e w3 ⟨rfl, a3, hB3, hF3, hM3⟩))
        go_roundw
        case rel => exact ⟨k + 1, a3, by go_num, hlt, hB3, hF3, hM3⟩
        case measure => simp [intOf]; omega
      · by_cases h92 : c = 92
        · subst h92
          go_wp2_with (first
            | (go_at_call 170; refine (HWS.out _ _ (by rw [ByteArray.data_append, Array.toList_append, HX.out, hc]; rfl) hB.out hM.out).mono ?_; rintro e w3 ⟨rfl, a3, hB3, hF3, hM3⟩))
          go_roundw
          case rel => exact ⟨k + 1, a3, by go_num, hlt, hB3, hF3, hM3⟩
          case measure => simp [intOf]; omega
        · by_cases h10 : c = 10
          · subst h10
            go_wp2_with (first
              | (go_at_call 170; refine (HWS.out _ _ (rfl) hB.out hM.out).mono ?_; rintro e w3 ⟨rfl, a3, hB3, hF3, hM3⟩))
            go_roundw
            case rel => exact ⟨k + 1, a3, by go_num, hlt, hB3, hF3, hM3⟩
            case measure => simp [intOf]; omega
          · by_cases h9 : c = 9
            · subst h9
              go_wp2_with (first
                | (go_at_call 170; refine (HWS.out _ _ (rfl) hB.out hM.out).mono ?_; rintro e w3 ⟨rfl, a3, hB3, hF3, hM3⟩))
              go_roundw
              case rel => exact ⟨k + 1, a3, by go_num, hlt, hB3, hF3, hM3⟩
              case measure => simp [intOf]; omega
            · obtain ⟨n, hn⟩ : ∃ n, n = c.toNat := ⟨_, rfl⟩
              have hn256 : n < 256 := by rw [hn]; exact c.toNat_lt
              have t34 : n ≠ 34 := fun h => h34 (by rw [← UInt8.toNat_inj, ← hn, h]; rfl)
              have e34 : ((n : Int) == 34) = false := by simp; omega
              have t92 : n ≠ 92 := fun h => h92 (by rw [← UInt8.toNat_inj, ← hn, h]; rfl)
              have e92 : ((n : Int) == 92) = false := by simp; omega
              have t10 : n ≠ 10 := fun h => h10 (by rw [← UInt8.toNat_inj, ← hn, h]; rfl)
              have e10 : ((n : Int) == 10) = false := by simp; omega
              have t9 : n ≠ 9 := fun h => h9 (by rw [← UInt8.toNat_inj, ← hn, h]; rfl)
              have e9 : ((n : Int) == 9) = false := by simp; omega
              have hcn : s[k].toNat = n := by rw [hc, hn]
              rw [← hn] at HWB
              by_cases hpr : 32 ≤ n ∧ n ≤ 126
              · obtain ⟨hp1, hp2⟩ := hpr
                have HQ : Hid (q1 c = [c]) := by unfold Hid q1; rw [if_neg (by simp [h34, h92]), if_neg h10, if_neg h9, if_pos ⟨by rw [UInt8.le_iff_toNat_le, ← hn]; exact hp1, by rw [UInt8.le_iff_toNat_le, ← hn]; exact hp2⟩]
                clear h34 h92 h10 h9 hn hc t34 t92 t10 t9
                go_wp2_with (first
                  | (go_at_call 177; refine (HWB.out _ HQ.out hB.out hM.out).mono ?_; rintro e w3 ⟨rfl, a3, hB3, hF3, hM3⟩))
                go_roundw
                case rel => exact ⟨k + 1, a3, by go_num, hlt, hB3, hF3, hM3⟩
                case measure => simp [intOf]; omega
              · have HQ : Hid (q1 c = (⟨#[92, 120]⟩ ++ hexBA.extract (n / 16) (n / 16 + 1) ++ hexBA.extract (n % 16) (n % 16 + 1) : ByteArray).data.toList) := by
                  rw [q1_hex hn]
                  unfold Hid q1
                  rw [if_neg (by simp [h34, h92]), if_neg h10, if_neg h9, if_neg (by rw [UInt8.le_iff_toNat_le, UInt8.le_iff_toNat_le, ← hn]; exact hpr)]
                clear h34 h92 h10 h9 hn hc t34 t92 t10 t9
                rcases (show n < 32 ∨ 126 < n by omega) with hpr | hpr
                all_goals
                  go_wp2
                  refine wp_region_ord (fun _ => True) [(0, 0), (0, 1), (0, 2), (0, 3), (0, 4), (0, 5), (0, 6), (0, 7), (0, 8), (0, 9), (0, 10), (0, 11), (0, 12), (0, 13), (3, 14)] (by kernel_rfl) (by kernel_rfl) ?_
                  go_wp2_with (first
                    | (refine ord_pure rfl rfl rfl (fun K hK => ?_); go_big_quiet_op; refine hK _ ?_; clear hK K)
                        | (refine ord_skip rfl rfl ?_; simp only [Act.put, List.setIfInBounds_toArray, List.set_cons_zero, List.set_cons_succ])
                        | (refine ord_held rfl rfl rfl (True.intro) (fun K hK => ?_); apply Exists.intro; refine ⟨fun w' hs => ?_, hK _ ?_⟩; (revert hs; dsimp only; (try simp only [and_imp]); intros; go_simp; rfl); clear hK K)
                        | (refine ord_keep rfl rfl (True.intro) (fun K hK => ?_))
                        | (refine ord_drop rfl rfl (fun K hK => ?_))
                        | (refine ord_nil ?_)
                    | (go_at_call 170; refine (HWS.out _ _ HQ.out (hB.out.mod0 (Mod.refl _ wr).drew) hM.out.drew).mono ?_; rintro e w3 ⟨rfl, a3, hB3, hF3, hM3⟩))
                  go_roundw
                  case rel => exact ⟨k + 1, a3, by go_num, hlt, hB3, hF3, hM3⟩
                  case measure => simp [intOf]; omega
    · obtain rfl : k = s.size := by omega
      have hlen := q1s_len s.data.toList
      have hsl : s.data.toList.length = s.size := (Lib.size_eq s).symm
      rw [hsl] at hlen
      have hB' := hB.out
      rw [List.take_of_length_le (by omega)] at hB'
      have HQ : Hid (quotedL s.data.toList = 34 :: s.data.toList.flatMap q1 ++ [34]) := rfl
      generalize s.data.toList.flatMap q1 = bs at *
      have HB2 := Lib.hid hB'; clear hB' hB hsl
      go_wp2_with (first
        | (go_at_call 177; refine (writeByte_any w.heap.size _ _ 34 _ HB2.out (by simp only [List.length_cons]; omega)).mono ?_; rintro e w1 ⟨rfl, a1, h1, hg1⟩
           have hm1 := Bu_mod (Nat.le_refl _) hF.out hM.out hg1
           have H1 := Lib.hid h1; have HM1 := Lib.hid hm1; clear h1 hg1 hm1)
        | (go_at_call 135; refine (bString_any w.heap.size _ _ _ H1.out (by simp only [List.length_cons, List.length_append, List.length_nil]; omega) (by simp)).mono ?_; rintro e w2 ⟨rfl, hM2⟩
           have HM2 := Lib.hid hM2; clear hM2))
      go_ret
      exact ⟨by rw [HQ.out]; rfl, HM1.out.1.step HM2.out (fun i hi hs => by
        rcases hs with rfl | hs
        · omega
        · have := HM1.out.2 i hs; omega)⟩
end Go.Proofs.YteecbbnpgmceiaaDoor
