/-
  does: rising, ranks, page.
-/
import Derived.Test.YtcmgeiohcgngeaaSymD2
import Derived.Test.YtcmgeiohcgngeaaSymT6
import Derived.Test.YtcmgeiohcgngeaaPageO
namespace Go.Proofs.Ytcmgeiohcgngeaa
open Go Go.RowKit Go.Mine Go.Maps
set_option linter.unusedVariables false
set_option maxHeartbeats 8000000
set_option maxRecDepth 100000

theorem pageO_tb {T : Nat} {a : Option Addr} {c B : Nat} {l : List ByteArray} {w : World} (h : TbAt w T a c B l) (hok : OkT l) (hl : l.length ≤ 2 ^ 20) : Calls Try.prog 15 #[.pointer (some ⟨T, 0, none⟩)] w fun e w' => ∃ v, e = .returned v ∧ PgResO w w' (atL l) v := by
  have H1 := Lib.hid (none_tb h)
  have c0 := h.c0
  have HV := Lib.hid (fun w2 (hw : w2 = w.alloc (.cells #[.slice a l.length c] 30)) => by
    have m : Mod (fun _ => False) w w2 := by rw [hw]; exact (Mod.refl _ w).alloc _
    exact (⟨sortedT_any w.heap.size l a c w2 (by omega) (by rw [hw]; exact heap_alloc_new w _) (h.own.rd.mod m (fun _ _ => id)) (fun b hb => (h.own.mod m (fun _ _ => id)).lt b hb), m⟩ : _ ∧ Mod (fun _ => False) w w2))
  have HP := Lib.hid (fun wx oa oc (hr : Rd wx oa (sts (srtT l))) => by
    have h1 := symPageO_any oa (srtT l) oc wx hr (by rw [srtT_len]; omega) (fun s hs => by have := hok.sm s (srtT_mem hs); omega)
    rw [srtT_len] at h1
    exact h1)
  have HE := Lib.hid (atL_srt hok.nd)
  clear h hok
  go_enter Try.func15, Try.ntmps15
  go_wp2_with fail
  refine H1.out.mono ?_
  rintro e w1 ⟨rfl, rfl⟩
  clear H1
  go_wp2_with fail
  refine (valT_any a l.length c w).mono ?_
  rintro e w2 ⟨rfl, hw2⟩
  obtain ⟨hS, hm⟩ := HV.out w2 hw2
  have HS := Lib.hid hS; have HM := Lib.hid hm
  clear hS hm hw2 HV c0
  go_wp2_with fail
  refine HS.out.mono ?_
  rintro e w3 ⟨oa, oc, rfl, hO, hf, hM⟩
  have HC := Lib.hid (HP.out w3 oa oc hO.rd); have HM2 := Lib.hid (HM.out.trans hM)
  clear hO hf hM HS HP HM
  go_wp2_with fail
  refine HC.out.mono ?_
  rintro e w4 ⟨v, rfl, hv⟩
  obtain ⟨hm, pa, pc, rfl, hr, hfp⟩ := hv
  rw [HE.out] at hr ⊢
  obtain ⟨bs, hbs⟩ : ∃ bs, bs = if pgErr none (atL l) = 0 then pgBytes (atL l) else [] := ⟨_, rfl⟩
  rw [← hbs] at hr ⊢
  have HM4 := Lib.hid (HM2.out.trans hm); have HR := Lib.hid hr; have HFP : Hid (∀ b, blk pa = some b → w.heap.size ≤ b) := Lib.hid (fun b hb => Nat.le_trans HM2.out.size (hfp b hb)); have HBS := Lib.hid hbs
  clear hm hr hfp HC HM2 hbs
  go_wp2_with fail
  go_ret
  exact ⟨.slice pa bs.length pc, rfl, HM4.out, pa, pc, by rw [← HBS.out], by rw [← HBS.out]; exact HR.out, HFP.out⟩
/-- a page, in a block of its own -/
def BtsO (bs : List UInt8) (w : World) (e : Ending) (w' : World) : Prop :=
  ∃ a c, e = .returned (.slice a bs.length c) ∧ Mine.Own w' 5 1 a bs.length c (bts bs) ∧ (∀ b, blk a = some b → w.heap.size ≤ b) ∧ Mod (fun _ => False) w w'
def BtsR (bs : List UInt8) (w : World) (e : Ending) (w' : World) : Prop :=
  ∃ a c, e = .returned (.slice a bs.length c) ∧ Rd w' a (bts bs) ∧ Mod (fun _ => False) w w'
theorem does_five (pt pm : Option Addr) (wh N : Int) (ta : Option Addr) (tn tc : Nat) (w : World) (r k : List Nat) (bs : List UInt8) (n : Nat) (hr : r.length < 2 ^ 40) (hk : k.length < 2 ^ 40) (hbs : bs.length < 2 ^ 40)
    (h1 : ∀ W, Mod (fun _ => False) w W → Calls Try.prog 13 #[.pointer pt] W (SliPost r W))
    (h2 : ∀ W, Mod (fun _ => False) w W → Calls Try.prog 14 #[.pointer pt] W (SliPost k W))
    (h3 : ∀ W, Mod (fun _ => False) w W → Calls Try.prog 15 #[.pointer pt] W (BtsO bs W))
    (g1 : ∀ W, Mod (fun _ => False) w W → Calls Try.prog 24 #[.pointer pm] W (SliPost r W))
    (g2 : ∀ W, Mod (fun _ => False) w W → Calls Try.prog 25 #[.pointer pm] W (SliPost k W))
    (g3 : ∀ W, Mod (fun _ => False) w W → Calls Try.prog 26 #[.pointer pm] W (BtsR bs W))
    (h4 : Twin 12 27 #[.pointer pt] #[.pointer pm] (.int .i64 (n : Nat)) w) :
    Calls Try.prog 7 #[.pointer pt, .pointer pm, .agg #[.int .i64 5, .int .i64 wh, .slice ta tn tc, .int .i64 N]] w fun e w' => e = .returned (.bool true) ∧ Mod (fun _ => False) w w' := by
  have m0 : Mod (fun _ => False) w (w.alloc (.cells #[.int .i64 5, .int .i64 wh, .slice ta tn tc, .int .i64 N] 34)) := (Mod.refl _ w).alloc _
  have H1 := Lib.hid h1; have H2 := Lib.hid h2; have H3 := Lib.hid h3; have G1 := Lib.hid g1; have G2 := Lib.hid g2; have G3 := Lib.hid g3; have H4 := Lib.hid h4
  have HM := Lib.hid m0
  clear h1 h2 h3 g1 g2 g3 h4 m0
  go_enter Try.func7, Try.ntmps7
  go_wp2_with fail
  refine (H1.out _ HM.out).mono ?_
  rintro e w1 ⟨ra, rc, rfl, hO1, hf1, hM1⟩
  have HM1 := Lib.hid (HM.out.trans hM1); have HO1 := Lib.hid hO1; have HF1 : Hid (∀ b, blk ra = some b → w.heap.size ≤ b) := Lib.hid (fun b hb => Nat.le_trans HM.out.size (hf1 b hb))
  clear hM1 hO1 hf1 H1 HM
  go_wp2_with fail
  refine (H2.out _ HM1.out).mono ?_
  rintro e w2 ⟨ka, kc, rfl, hO2, hf2, hM2⟩
  have HM2 := Lib.hid (HM1.out.trans hM2); have HO2 := Lib.hid hO2; have HF2 : Hid (∀ b, blk ka = some b → w1.heap.size ≤ b) := Lib.hid hf2
  have HO12 := Lib.hid (HO1.out.mod hM2 (fun _ _ => id)); have HMR := Lib.hid hM2
  have HL1 : Hid (∀ b, blk ra = some b → b < w1.heap.size) := Lib.hid HO1.out.lt
  clear hM2 hO2 hf2 H2
  go_wp2_with fail
  refine (H3.out _ HM2.out).mono ?_
  rintro e w3 ⟨pa, pc, rfl, hO3, hf3, hM3⟩
  have HM3 := Lib.hid (HM2.out.trans hM3); have HO3 := Lib.hid hO3
  have HF3 : Hid (∀ b, blk pa = some b → w2.heap.size ≤ b) := Lib.hid hf3
  have HL2 : Hid (∀ b, blk ka = some b → b < w2.heap.size) := Lib.hid HO2.out.lt
  have HO13 := Lib.hid (HO12.out.mod hM3 (fun _ _ => id)); have HO23 := Lib.hid (HO2.out.mod hM3 (fun _ _ => id))
  have hcv : ∀ w', Rd w' pa (bts bs) → (convert 52 9 (.slice pa bs.length pc)).run Try.prog w' = .ok (.string ⟨bs.toArray⟩) w' := fun w' h => conv24 pa bs pc w' h
  have hz12 := HM1.out.size
  have HM12 : Hid (w1.heap.size ≤ w2.heap.size) := Lib.hid HMR.out.size
  clear hM3 hO3 hf3 H3 HO12 hz12
  go_wp2_with fail
  refine wp_region_ord (fun w' => Rd w' pa (bts bs)) [(0, 0), (0, 1), (3, 2), (3, 3), (0, 4), (0, 5), (0, 6), (3, 7), (3, 8), (0, 9), (0, 10), (0, 11), (0, 13), (1, 12), (2, 14), (2, 15), (0, 16), (0, 17), (0, 18), (0, 19), (3, 20), (0, 21), (3, 22), (0, 23), (0, 24), (0, 25)] (by kernel_rfl) (by kernel_rfl) ?_
  go_wp2_with (first
    | (refine ord_pure rfl rfl rfl (fun K hK => ?_); go_big_quiet_op; refine hK _ ?_; clear hK K)
                                                                | (refine ord_skip rfl rfl ?_; simp only [Act.put, List.setIfInBounds_toArray, List.set_cons_zero, List.set_cons_succ])
                                                                | (refine ord_held rfl rfl rfl (trivial) (fun K hK => ?_); apply Exists.intro; refine ⟨fun w' hs => ?_, hK _ ?_⟩; (revert hs; dsimp only; (try simp only [and_imp]); intros; go_simp; rfl); clear hK K)
                                                                | (refine ord_keep rfl rfl (trivial) (fun K hK => ?_))
                                                                | (refine ord_drop rfl rfl (fun K hK => ?_))
                                                                | (refine ord_nil ?_)
    | fail)
  refine (G1.out _ HM3.out.drew).mono ?_
  rintro e w4 ⟨ra2, rc2, rfl, hO4, _, hM4⟩
  have m34 : Mod (fun _ => False) w3 w4 := (Mod.refl _ w3).drew.trans hM4
  have HI1 := Lib.hid (ints_same (HO13.out.mod m34 (fun _ _ => id)) hO4 hr)
  have HM34 := Lib.hid m34
  clear hO4 hM4 m34 G1
  go_wp2_with (first
    | (refine ord_pure rfl rfl rfl (fun K hK => ?_); go_big_quiet_op; refine hK _ ?_; clear hK K)
                                                                | (refine ord_skip rfl rfl ?_; simp only [Act.put, List.setIfInBounds_toArray, List.set_cons_zero, List.set_cons_succ])
                                                                | (refine ord_held rfl rfl rfl (trivial) (fun K hK => ?_); apply Exists.intro; refine ⟨fun w' hs => ?_, hK _ ?_⟩; (revert hs; dsimp only; (try simp only [and_imp]); intros; go_simp; rfl); clear hK K)
                                                                | (refine ord_keep rfl rfl (trivial) (fun K hK => ?_))
                                                                | (refine ord_drop rfl rfl (fun K hK => ?_))
                                                                | (refine ord_nil ?_)
    | fail)
  refine HI1.out.mono ?_
  rintro e w5 ⟨rfl, hM5⟩
  have HM35 := Lib.hid (HM34.out.trans hM5)
  clear hM5 HI1 HM34
  go_wp2_with (first
    | (refine ord_pure rfl rfl rfl (fun K hK => ?_); go_big_quiet_op; refine hK _ ?_; clear hK K)
                                                                | (refine ord_skip rfl rfl ?_; simp only [Act.put, List.setIfInBounds_toArray, List.set_cons_zero, List.set_cons_succ])
                                                                | (refine ord_held rfl rfl rfl (trivial) (fun K hK => ?_); apply Exists.intro; refine ⟨fun w' hs => ?_, hK _ ?_⟩; (revert hs; dsimp only; (try simp only [and_imp]); intros; go_simp; rfl); clear hK K)
                                                                | (refine ord_keep rfl rfl (trivial) (fun K hK => ?_))
                                                                | (refine ord_drop rfl rfl (fun K hK => ?_))
                                                                | (refine ord_nil ?_)
    | fail)
  refine (G2.out _ (HM3.out.trans HM35.out)).mono ?_
  rintro e w6 ⟨ka2, kc2, rfl, hO6, _, hM6⟩
  have HI2 := Lib.hid (ints_same (HO23.out.mod (HM35.out.trans hM6) (fun _ _ => id)) hO6 hk)
  have HM36 := Lib.hid (HM35.out.trans hM6)
  clear hO6 hM6 G2 HM35
  go_wp2_with (first
    | (refine ord_pure rfl rfl rfl (fun K hK => ?_); go_big_quiet_op; refine hK _ ?_; clear hK K)
                                                                | (refine ord_skip rfl rfl ?_; simp only [Act.put, List.setIfInBounds_toArray, List.set_cons_zero, List.set_cons_succ])
                                                                | (refine ord_held rfl rfl rfl (trivial) (fun K hK => ?_); apply Exists.intro; refine ⟨fun w' hs => ?_, hK _ ?_⟩; (revert hs; dsimp only; (try simp only [and_imp]); intros; go_simp; rfl); clear hK K)
                                                                | (refine ord_keep rfl rfl (trivial) (fun K hK => ?_))
                                                                | (refine ord_drop rfl rfl (fun K hK => ?_))
                                                                | (refine ord_nil ?_)
    | fail)
  refine HI2.out.mono ?_
  rintro e w7 ⟨rfl, hM7⟩
  have HM37 := Lib.hid (HM36.out.trans hM7)
  have hS7 : Rd w7 pa (bts bs) := HO3.out.rd.mod HM37.out (fun _ _ => id)
  clear hM7 HI2 HM36
  go_wp2_with (first
    | (refine ord_pure rfl rfl rfl (fun K hK => ?_); go_big_quiet_op; refine hK _ ?_; clear hK K)
                                                                | (refine ord_skip rfl rfl ?_; simp only [Act.put, List.setIfInBounds_toArray, List.set_cons_zero, List.set_cons_succ])
                                                                | (refine ord_held rfl rfl rfl (hS7) (fun K hK => ?_); apply Exists.intro; refine ⟨fun w' hs => ?_, hK _ ?_⟩; (revert hs; dsimp only; (try simp only [and_imp]); intros; go_simp; rfl); clear hK K)
                                                                | (refine ord_keep rfl rfl (hS7) (fun K hK => ?_))
                                                                | (refine ord_drop rfl rfl (fun K hK => ?_))
                                                                | (refine ord_nil ?_)
    | fail)
  refine (G3.out _ (HM3.out.trans HM37.out)).mono ?_
  rintro e w8 ⟨qa, qc, rfl, hR8, hM8⟩
  have hS8 : Rd w8 pa (bts bs) := hS7.mod hM8 (fun _ _ => id)
  have hq := conv24 qa bs qc w8 hR8
  have HM38 := Lib.hid (HM37.out.trans hM8)
  refine hK _ _ hS8 ?_
  clear hK K hR8 hM8 G3 HM37 hS7
  go_wp2_with (first
    | (refine ord_pure rfl rfl rfl (fun K hK => ?_); go_big_quiet_op; refine hK _ ?_; clear hK K)
                                                                | (refine ord_skip rfl rfl ?_; simp only [Act.put, List.setIfInBounds_toArray, List.set_cons_zero, List.set_cons_succ])
                                                                | (refine ord_held rfl rfl rfl (hS8) (fun K hK => ?_); apply Exists.intro; refine ⟨fun w' hs => ?_, hK _ ?_⟩; (revert hs; dsimp only; (try simp only [and_imp]); intros; go_simp; rfl); clear hK K)
                                                                | (refine ord_keep rfl rfl (hS8) (fun K hK => ?_))
                                                                | (refine ord_drop rfl rfl (fun K hK => ?_))
                                                                | (refine ord_nil ?_)
    | fail)
  refine hK _ _ hS8 ?_
  clear hK K hq
  have HL8 := Lib.hid (H4.out _ (HM3.out.trans HM38.out))
  go_wp2_with (first
    | (refine ord_pure rfl rfl rfl (fun K hK => ?_); go_big_quiet_op; refine hK _ ?_; clear hK K)
                                                                | (refine ord_skip rfl rfl ?_; simp only [Act.put, List.setIfInBounds_toArray, List.set_cons_zero, List.set_cons_succ])
                                                                | (refine ord_held rfl rfl rfl (hS8) (fun K hK => ?_); apply Exists.intro; refine ⟨fun w' hs => ?_, hK _ ?_⟩; (revert hs; dsimp only; (try simp only [and_imp]); intros; go_simp; rfl); clear hK K)
                                                                | (refine ord_keep rfl rfl (hS8) (fun K hK => ?_))
                                                                | (refine ord_drop rfl rfl (fun K hK => ?_))
                                                                | (refine ord_nil ?_)
    | fail)
  refine HL8.out.1.mono ?_
  rintro e w9 ⟨rfl, hw9⟩
  obtain rfl : w8 = w9 := hw9
  go_wp2_with (first
    | (refine ord_pure rfl rfl rfl (fun K hK => ?_); go_big_quiet_op; refine hK _ ?_; clear hK K)
                                                                | (refine ord_skip rfl rfl ?_; simp only [Act.put, List.setIfInBounds_toArray, List.set_cons_zero, List.set_cons_succ])
                                                                | (refine ord_held rfl rfl rfl (hS8) (fun K hK => ?_); apply Exists.intro; refine ⟨fun w' hs => ?_, hK _ ?_⟩; (revert hs; dsimp only; (try simp only [and_imp]); intros; go_simp; rfl); clear hK K)
                                                                | (refine ord_keep rfl rfl (hS8) (fun K hK => ?_))
                                                                | (refine ord_drop rfl rfl (fun K hK => ?_))
                                                                | (refine ord_nil ?_)
    | fail)
  refine HL8.out.2.mono ?_
  rintro e w9 ⟨rfl, hw9⟩
  obtain rfl : w8 = w9 := hw9
  have HSP := Lib.hid (spoilt_any (HO13.out.mod HM38.out (fun _ _ => id)) (by simpa using hr))
  have HS8 := Lib.hid hS8
  clear hS8 HL8
  go_wp2_with (first
    | (refine ord_pure rfl rfl rfl (fun K hK => ?_); go_big_quiet_op; refine hK _ ?_; clear hK K)
                                                                | (refine ord_skip rfl rfl ?_; simp only [Act.put, List.setIfInBounds_toArray, List.set_cons_zero, List.set_cons_succ])
                                                                | (refine ord_held rfl rfl rfl (trivial) (fun K hK => ?_); apply Exists.intro; refine ⟨fun w' hs => ?_, hK _ ?_⟩; (revert hs; dsimp only; (try simp only [and_imp]); intros; go_simp; rfl); clear hK K)
                                                                | (refine ord_keep rfl rfl (trivial) (fun K hK => ?_))
                                                                | (refine ord_drop rfl rfl (fun K hK => ?_))
                                                                | (refine ord_nil ?_)
    | fail)
  refine HSP.out.mono ?_
  rintro e w9 ⟨rfl, hM9⟩
  have hk9 : Mine.Own w9 3 1 ka k.length kc (nums k) := (HO23.out.mod HM38.out (fun _ _ => id)).mod hM9 (fun b hb h => by have := HL1.out b h; have := HF2.out b hb; omega)
  have HSP2 := Lib.hid (spoilt_any hk9 (by simpa using hk))
  have hp9 : Mine.Own w9 5 1 pa bs.length pc (bts bs) := (HO3.out.mod HM38.out (fun _ _ => id)).mod hM9 (fun b hb h => by have h1 := HL1.out b h; have h2 := HF3.out b hb; have h3 := HM12.out; omega)
  have HP9 := Lib.hid hp9; have HM9 := Lib.hid hM9
  clear hk9 hp9 hM9 HSP hcv
  go_wp2_with fail
  refine HSP2.out.mono ?_
  rintro e wa ⟨rfl, hMa⟩
  have HPa := Lib.hid (HP9.out.mod hMa (fun b hb h => by have h1 := HL2.out b h; have h2 := HF3.out b hb; omega))
  have HMa : Hid (Mod (fun b => blk ra = some b ∨ blk ka = some b) w3 wa) := Lib.hid (((HM38.out.mono (fun _ _ h => h.elim)).step HM9.out (fun b _ h => .inl h)).step hMa (fun b _ h => .inr h))
  clear hMa HSP2
  go_wp2_with fail
  go_loopw [27] (fun iv wr => ∃ j : Nat, iv = .int .i64 j ∧ j ≤ bs.length ∧ Hid (∃ us : List Value, Mine.Own wr 5 1 pa bs.length pc us ∧ ∀ i, j ≤ i → us[i]? = (bts bs)[i]?) ∧ Hid (Mod (fun b => blk pa = some b) wa wr)) (fun iv _ => bs.length - (intOf iv).toNat)
  case atStart => exact ⟨0, rfl, Nat.zero_le _, Lib.hid ⟨bts bs, HPa.out, fun _ _ => rfl⟩, Lib.hid (Mod.refl _ _)⟩
  case round =>
    obtain ⟨j, rfl, hj, hO, hM⟩ := hrel
    by_cases hlt : j < bs.length
    · obtain ⟨us, ho, hu⟩ := hO.out
      obtain ⟨b, rfl⟩ := ho.atHead (by omega)
      obtain ⟨x, hx⟩ : ∃ x : UInt8, us[j]? = some (.int .u8 x.toNat) := ⟨bs[j], by rw [hu j (Nat.le_refl _)]; simp [bts, hlt]⟩
      have x0 : wr.cell? ⟨b, j, none⟩ = some (.int .u8 x.toNat) := by
        obtain ⟨b', o, e, hc⟩ := ho.rd j _ hx
        cases e
        rwa [Nat.zero_add] at hc
      have f0 : wr.frozen? ⟨b, j, none⟩ = false := ho.frozen (b := b) (o := j) rfl
      have HS := Lib.hid (fun u : Value => ho.store j u)
      have HU := Lib.hid hu
      have HM2 := Lib.hid (fun u : Value => hM.out.setCell (p := ⟨b, j, none⟩) (fun _ => rfl) u)
      clear ho hu hx hM hO
      go_wp2_with fail
      go_roundw
      case rel => exact ⟨j + 1, by go_num, hlt, Lib.hid ⟨_, HS.out _, fun i hi => by rw [List.getElem?_set_ne (by omega)]; exact HU.out i (by omega)⟩, Lib.hid (HM2.out _)⟩
      case measure => simp [intOf]; omega
    · obtain rfl : j = bs.length := by omega
      have HMW : Hid (Mod (fun _ => False) w wr) := Lib.hid ((HM3.out.step HMa.out (fun b hb h => by
        rcases h with h | h
        · have := HF1.out b h; omega
        · have := HF2.out b h; have := HM1.out.size; omega)).step hM.out (fun b hb h => by have := HF3.out b h; have := HM2.out.size; omega))
      clear hO hM
      go_wp2_with fail
      go_ret
      exact ⟨rfl, HMW.out⟩
end Go.Proofs.Ytcmgeiohcgngeaa
