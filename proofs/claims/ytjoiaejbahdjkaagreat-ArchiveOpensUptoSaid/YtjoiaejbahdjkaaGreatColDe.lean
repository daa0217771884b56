/-
  The program's reading of a page: walked.
-/
import Derived.Test.YtjoiaejbahdjkaaGreatColEn
import Derived.Test.YtjoiaejbahdjkaaGreatCqD
namespace Go.Proofs.YtjoiaejbahdjkaaGreat
open Go Go.RowKit Go.Mine
set_option linter.unusedVariables false
set_option maxHeartbeats 8000000
set_option maxRecDepth 100000
theorem equal_any (a1 a2 : Option Addr) (d1 d2 : Nat) (l1 l2 : List UInt8) (w : World) (h1 : Rd w a1 (bts l1)) (h2 : Rd w a2 (bts l2)) :
 Calls Tryz.prog 38 #[.slice a1 l1.length d1, .slice a2 l2.length d2] w fun e w' => e = .returned (.bool (decide (l1 = l2))) ∧ w = w' := by
 have c1 := run_bytes24 a1 l1 d1 w h1
 have c2 := run_bytes24 a2 l2 d2 w h2
 clear h1 h2
 go_enter Tryz.func38, Tryz.ntmps38
 go_wp2_with fail
 have he : (l1 == l2) = decide (l1 = l2) := by rw [Bool.eq_iff_iff]; simp
 go_ret
 exact ⟨by rw [← he]; rfl, rfl⟩
theorem run_clip {P : Program} {t e : TypeId} {k bytes : Nat} (ti : TI P t e k bytes) (a : Option Addr) (n c : Nat) (h : n ≤ c) (ha : ∀ x, a = some x → ∃ b, x = ⟨b, 0, none⟩) (w : World) :
 (Instr.slice t (.slice a n c) none (some (.int .i64 n)) (some (.int .i64 n))).run P w = .ok (.slice a n n) w := by
 obtain ⟨i, z, hinf, hz, rfl, rfl, hzs⟩ := ti.ex
 simp [Instr.slice, run_underlying ti.ht, Instr.sliceBounds, Instr.sliceBound, asIntOf, h, sizeOf, typeInfo, hinf]
 intro _
 cases a with
 | none => rfl
 | some x => obtain ⟨b, rfl⟩ := ha x rfl; rfl
theorem own_head {w : World} {e : TypeId} {k : Nat} {a : Option Addr} {n c : Nat} {xs : List Value} (h : Mine.Own w e k a n c xs) : (n ≤ c) ∧ (∀ x, a = some x → ∃ b, x = ⟨b, 0, none⟩) := by
 rcases h.2 with ⟨rfl, rfl, rfl⟩ | ⟨b, cur, rfl, _, h3, _⟩
 ·exact ⟨Nat.le_refl _, fun _ h => by cases h⟩
 ·exact ⟨h3, fun x h => by cases h; exact ⟨b, rfl⟩⟩
theorem clipU_any (a : Option Addr) (n c : Nat) (xs : List Value) (w : World) (h : Mine.Own w 58 1 a n c xs) (hn : n < 2 ^ 30) :
 Calls Tryz.prog 152 #[.slice a n c] w fun e w' => e = .returned (.slice a n n) ∧ w = w' := by
 have hr := run_clip tiU32 a n c (own_head h).1 (own_head h).2 w
 clear h
 go_enter Tryz.func152, Tryz.ntmps152
 go_wp2
 go_ret
 exact ⟨rfl, rfl⟩
theorem idu0 (w : World) : (Instr.index 206 (.agg #[.func (.func 168) #[] #[], .func (.func 172) #[] #[], .func (.func 173) #[] #[], .func (.func 174) #[] #[], .func (.func 177) #[] #[], .func (.func 178) #[] #[], .func (.func 179) #[] #[], .func (.func 181) #[] #[], .func (.func 182) #[] #[], .func (.func 183) #[] #[], .func (.func 185) #[] #[], .func (.func 186) #[] #[]]) (.int .u8 0)).run Tryz.prog w = .ok (.agg #[.func (.func 168) #[] #[], .func (.func 172) #[] #[], .func (.func 173) #[] #[]]) w := by kernel_rfl
theorem idu1 (w : World) : (Instr.index 206 (.agg #[.func (.func 168) #[] #[], .func (.func 172) #[] #[], .func (.func 173) #[] #[], .func (.func 174) #[] #[], .func (.func 177) #[] #[], .func (.func 178) #[] #[], .func (.func 179) #[] #[], .func (.func 181) #[] #[], .func (.func 182) #[] #[], .func (.func 183) #[] #[], .func (.func 185) #[] #[], .func (.func 186) #[] #[]]) (.int .u8 1)).run Tryz.prog w = .ok (.agg #[.func (.func 174) #[] #[], .func (.func 177) #[] #[], .func (.func 178) #[] #[]]) w := by kernel_rfl
theorem idu2 (w : World) : (Instr.index 206 (.agg #[.func (.func 168) #[] #[], .func (.func 172) #[] #[], .func (.func 173) #[] #[], .func (.func 174) #[] #[], .func (.func 177) #[] #[], .func (.func 178) #[] #[], .func (.func 179) #[] #[], .func (.func 181) #[] #[], .func (.func 182) #[] #[], .func (.func 183) #[] #[], .func (.func 185) #[] #[], .func (.func 186) #[] #[]]) (.int .u8 2)).run Tryz.prog w = .ok (.agg #[.func (.func 179) #[] #[], .func (.func 181) #[] #[], .func (.func 182) #[] #[]]) w := by kernel_rfl
theorem idu3 (w : World) : (Instr.index 206 (.agg #[.func (.func 168) #[] #[], .func (.func 172) #[] #[], .func (.func 173) #[] #[], .func (.func 174) #[] #[], .func (.func 177) #[] #[], .func (.func 178) #[] #[], .func (.func 179) #[] #[], .func (.func 181) #[] #[], .func (.func 182) #[] #[], .func (.func 183) #[] #[], .func (.func 185) #[] #[], .func (.func 186) #[] #[]]) (.int .u8 3)).run Tryz.prog w = .ok (.agg #[.func (.func 183) #[] #[], .func (.func 185) #[] #[], .func (.func 186) #[] #[]]) w := by kernel_rfl
def DecPP (r : Option (List Nat)) (w : World) (e : Ending) (w' : World) : Prop :=
 ∃ x, e = .returned (.tuple #[x, .int .i64 (if r.isSome then (0 : Nat) else (50 : Nat))]) ∧ Mod (fun _ => False) w w' ∧ ∀ c, r = some c → ∃ a' c', x = .slice a' c.length c' ∧ Rd w' a' (u32s c) ∧ ∀ b, blk a' = some b → w.heap.size ≤ b ∧ b < w'.heap.size
theorem decP_any (a : Option Addr) (d rows : Nat) (l : List UInt8) (w : World) (hr : Rd w a (bts l)) (hl : l.length < 2 ^ 40) (hd : l.length ≤ d) (hrows : rows ≤ 65536) :
 Calls Tryz.prog 130 #[.slice a l.length d, .int .i64 rows] w (DecPP (decP rows l) w) := by
 have HR := Hi hr
 clear hr
 cases l with
 | nil =>
   have HD : Hid (decP rows [] = none) := Hi rfl
   go_enter Tryz.func130, Tryz.ntmps130
   go_wp2_with fail
   refine bodyPost_ret (v := .tuple #[.slice none 0 0, .int .i64 50]) (by simp [results, Tryz.results130, go_sem]) rfl ?_
   rw [HD.out]
   exact ⟨_, rfl, Mod.refl _ _, fun c h => by cases h⟩
 | cons b r =>
   obtain ⟨bb, bo, rfl, x0⟩ := byte_cell HR.out (i := 0) (by simp)
   have hb := b.toNat_lt
   have hd0 : decP rows (b :: r) = if b.toNat < 1 ∨ 4 < b.toNat then none else if (readP b.toNat rows r).length = rows ∧ encL (readP b.toNat rows r) = b :: r then some (readP b.toNat rows r) else none := rfl
   rw [List.getElem_cons_zero, Nat.add_zero] at x0
   have HSUB := Hi (subA_rd HR.out (c := d) (lo := 1) (k := 1) (fun h => by
    have h1 : (bts (b :: r)).length = r.length + 1 := by simp [bts]
    rw [List.length_cons] at hd
    omega))
   rw [show (bts (b :: r)).drop (1 * 1) = bts r from rfl] at HSUB
   have HEQ := Hi (fun a1 d1 l1 W h1 (m : Mod (fun _ => False) w W) => equal_any a1 (some ⟨bb, bo, none⟩) d1 d l1 (b :: r) W h1 (HR.out.mod m (fun _ _ => id)))
   rw [List.length_cons] at hl hd HEQ ⊢
   have hsl : ∀ W : World, (Instr.slice 23 (.slice (some ⟨bb, bo, none⟩) (r.length + 1) d) (some (.int .i64 1)) none none).run Tryz.prog W = .ok (.slice (subA (some ⟨bb, bo, none⟩) d 1 1) r.length (d - 1)) W := fun W =>
    run_slice_lo' ti24 (some ⟨bb, bo, none⟩) (r.length + 1) d 1 (by omega) (by omega) W
   have HSN : Hid (subA (some ⟨bb, bo, none⟩) d 1 1 = none → d - 1 = 0) := Hi (fun h => by
    unfold subA at h
    split at h
    ·omega
    ·cases h)
   generalize subA (some ⟨bb, bo, none⟩) d 1 1 = sa at *
   have hq0 : ((r.length : Int) + 1 == 0) = false := by simp; omega
   have HU := Hi (fun v => readP_u32 v rows r)
   generalize hpg : b :: r = page at *
   clear hpg
   by_cases hbad : b.toNat < 1 ∨ 4 < b.toNat
   ·rw [if_pos hbad] at hd0
    have HD := Hi hd0
    clear hd0
    generalize b.toNat = v at *
    by_cases h1 : v < 1
    ·clear hbad
     go_enter Tryz.func130, Tryz.ntmps130
     go_wp2_with fail
     refine bodyPost_ret (v := .tuple #[.slice none 0 0, .int .i64 50]) (by simp [results, Tryz.results130, go_sem]) rfl ?_
     rw [HD.out]
     exact ⟨_, rfl, Mod.refl _ _, fun c h => by cases h⟩
    ·have h4 : 4 < v := by omega
     clear hbad
     go_enter Tryz.func130, Tryz.ntmps130
     go_wp2_with fail
     refine bodyPost_ret (v := .tuple #[.slice none 0 0, .int .i64 50]) (by simp [results, Tryz.results130, go_sem]) rfl ?_
     rw [HD.out]
     exact ⟨_, rfl, Mod.refl _ _, fun c h => by cases h⟩
   ·rw [if_neg hbad] at hd0
    have hv : b.toNat = 1 ∨ b.toNat = 2 ∨ b.toNat = 3 ∨ b.toNat = 4 := by omega
    clear hbad
    have HD0 := Hi hd0
    clear hd0
    generalize b.toNat = v at *
    rcases hv with rfl | rfl | rfl | rfl
    ·
     go_enter Tryz.func130, Tryz.ntmps130
     go_wp2_with fail
     refine wp_region_ord (fun w' => w'.cell? ⟨bb, bo, none⟩ = some (.int .u8 (1 : Nat))) [(0, 1), (0, 2), (1, 3), (0, 4), (0, 7), (0, 8), (0, 9), (2, 0), (0, 5), (0, 6), (3, 10), (0, 11)] (by kernel_rfl) (by kernel_rfl) ?_
     go_wp2_with (first
      |(refine ord_pure rfl rfl rfl (fun K hK => ?_); go_big_quiet_op; refine hK _ ?_; clear hK K)
      |(refine ord_held rfl rfl rfl (x0) (fun K hK => ?_); apply Exists.intro; refine ⟨fun w' hs => ?_, hK _ ?_⟩; (revert hs; dsimp only; (try simp only [and_imp]); intros; go_simp; rfl); clear hK K)
      |(refine ord_keep rfl rfl (x0) (fun K hK => ?_))
      |(refine ord_drop rfl rfl (fun K hK => ?_))
      |(refine ord_nil ?_))
     refine (ways_any _).mono ?_
     rintro e w1 ⟨rfl, hm1⟩
     have x1 : w1.cell? ⟨bb, bo, none⟩ = some (.int .u8 (1 : Nat)) := hm1.cell (by simpa using x0) id
     have HM1 : Hid (Mod (fun _ => False) w w1) := Hi ((Mod.refl _ w).drew.trans hm1)
     refine hK _ _ x1 ?_
     clear hK K hm1
     have hidx := idu0
     have hfr := fr0
     go_wp2_with (first
      |(refine ord_pure rfl rfl rfl (fun K hK => ?_); go_big_quiet_op; refine hK _ ?_; clear hK K)
      |(refine ord_held rfl rfl rfl (x1) (fun K hK => ?_); apply Exists.intro; refine ⟨fun w' hs => ?_, hK _ ?_⟩; (revert hs; dsimp only; (try simp only [and_imp]); intros; go_simp; rfl); clear hK K)
      |(refine ord_keep rfl rfl (x1) (fun K hK => ?_))
      |(refine ord_drop rfl rfl (fun K hK => ?_))
      |(refine ord_nil ?_))
     refine (readP1_any _ (d - 1) rows r w1 (HSUB.out.mod HM1.out (fun _ _ => id)) (by omega) HSN.out hrows).mono ?_
     rintro e w2 ⟨ca, cc, rfl, hO⟩
     have HO := Hi hO
     clear hO
     refine hK _ _ ?_
     clear hK K
     have HLT := HO.out.own.lt
     have HU2 : U32 (rpGo rows r) := HU.out 1
     have HDD : Hid (decP rows page = if (rpGo rows r).length = rows ∧ encL (rpGo rows r) = page then some (rpGo rows r) else none) := HD0
     clear HD0 x0 x1 hidx hfr
     generalize rpGo rows r = c at *
     by_cases hcl : c.length = rows
     ·have hne1 : ((c.length : Int) != (rows : Int)) = false := by simp; omega
      have hc16 : c.length ≤ 65536 := by omega
      have HCL := Hi hcl
      clear hcl
      have HENC := Hi (encP_any ca cc c w2 HO.out.own.rd HU2 hc16 HLT)
      go_wp2_with (first
       |(refine ord_pure rfl rfl rfl (fun K hK => ?_); go_big_quiet_op; refine hK _ ?_; clear hK K)
       |(refine ord_held rfl rfl rfl (trivial) (fun K hK => ?_); apply Exists.intro; refine ⟨fun w' hs => ?_, hK _ ?_⟩; (revert hs; dsimp only; (try simp only [and_imp]); intros; go_simp; rfl); clear hK K)
       |(refine ord_keep rfl rfl (trivial) (fun K hK => ?_))
       |(refine ord_drop rfl rfl (fun K hK => ?_))
       |(refine ord_nil ?_))
      refine HENC.out.mono ?_
      rintro e w3 ⟨ea, ec, rfl, hE⟩
      have HE := Hi hE
      clear hE HENC
      have HM3 := Hi (HM1.out.trans (HO.out.md.trans HE.out.md))
      go_wp2_with fail
      refine (HEQ.out ea ec (encL c) w3 HE.out.own.rd HM3.out).mono ?_
      rintro e w4 ⟨rfl, hw4⟩
      obtain rfl : w3 = w4 := hw4
      by_cases heq : encL c = page
      ·have HD : Hid (decP rows page = some c) := Hi (by rw [HDD.out, if_pos ⟨HCL.out, heq⟩])
       have hdq : decide (encL c = page) = true := decide_eq_true heq
       have HOC : Mine.Own w3 58 1 ca c.length cc (u32s c) := by
        have h1 := HO.out.own.mod HE.out.md (fun _ _ => id)
        rwa [u32s_len] at h1
       have HOC2 := Hi HOC
       rw [hdq]
       clear hdq heq HDD HEQ
       go_wp2_with fail
       refine (clipU_any ca c.length cc (u32s c) w3 HOC (by omega)).mono ?_
       rintro e w5 ⟨rfl, hw5⟩
       obtain rfl : w3 = w5 := hw5
       clear HOC
       go_wp2_with fail
       refine bodyPost_ret (v := .tuple #[.slice ca c.length c.length, .int .i64 0]) (by simp [results, Tryz.results130, go_sem]) rfl ?_
       rw [HD.out]
       exact ⟨_, rfl, HM3.out, fun c' h => by cases h; exact ⟨ca, c.length, rfl, HOC2.out.rd, fun b hb => ⟨Nat.le_trans HM1.out.size (HO.out.fr b hb), HOC2.out.lt b hb⟩⟩⟩
      ·have HD : Hid (decP rows page = none) := Hi (by rw [HDD.out, if_neg (fun h => heq h.2)])
       have hdq : decide (encL c = page) = false := decide_eq_false heq
       rw [hdq]
       clear hdq heq HDD HEQ
       go_wp2_with fail
       refine bodyPost_ret (v := .tuple #[.slice none 0 0, .int .i64 50]) (by simp [results, Tryz.results130, go_sem]) rfl ?_
       rw [HD.out]
       exact ⟨_, rfl, HM3.out, fun c h => by cases h⟩
     ·have HD : Hid (decP rows page = none) := Hi (by rw [HDD.out, if_neg (fun h => hcl h.1)])
      have hne1 : ((c.length : Int) != (rows : Int)) = true := by simp; omega
      clear hcl HDD HEQ
      go_wp2_with (first
       |(refine ord_pure rfl rfl rfl (fun K hK => ?_); go_big_quiet_op; refine hK _ ?_; clear hK K)
       |(refine ord_held rfl rfl rfl (trivial) (fun K hK => ?_); apply Exists.intro; refine ⟨fun w' hs => ?_, hK _ ?_⟩; (revert hs; dsimp only; (try simp only [and_imp]); intros; go_simp; rfl); clear hK K)
       |(refine ord_keep rfl rfl (trivial) (fun K hK => ?_))
       |(refine ord_drop rfl rfl (fun K hK => ?_))
       |(refine ord_nil ?_))
      refine bodyPost_ret (v := .tuple #[.slice none 0 0, .int .i64 50]) (by simp [results, Tryz.results130, go_sem]) rfl ?_
      rw [HD.out]
      exact ⟨_, rfl, (HM1.out.trans HO.out.md), fun c h => by cases h⟩
    ·
     go_enter Tryz.func130, Tryz.ntmps130
     go_wp2_with fail
     refine wp_region_ord (fun w' => w'.cell? ⟨bb, bo, none⟩ = some (.int .u8 (2 : Nat))) [(0, 1), (0, 2), (1, 3), (0, 4), (0, 7), (0, 8), (0, 9), (2, 0), (0, 5), (0, 6), (3, 10), (0, 11)] (by kernel_rfl) (by kernel_rfl) ?_
     go_wp2_with (first
      |(refine ord_pure rfl rfl rfl (fun K hK => ?_); go_big_quiet_op; refine hK _ ?_; clear hK K)
      |(refine ord_held rfl rfl rfl (x0) (fun K hK => ?_); apply Exists.intro; refine ⟨fun w' hs => ?_, hK _ ?_⟩; (revert hs; dsimp only; (try simp only [and_imp]); intros; go_simp; rfl); clear hK K)
      |(refine ord_keep rfl rfl (x0) (fun K hK => ?_))
      |(refine ord_drop rfl rfl (fun K hK => ?_))
      |(refine ord_nil ?_))
     refine (ways_any _).mono ?_
     rintro e w1 ⟨rfl, hm1⟩
     have x1 : w1.cell? ⟨bb, bo, none⟩ = some (.int .u8 (2 : Nat)) := hm1.cell (by simpa using x0) id
     have HM1 : Hid (Mod (fun _ => False) w w1) := Hi ((Mod.refl _ w).drew.trans hm1)
     refine hK _ _ x1 ?_
     clear hK K hm1
     have hidx := idu1
     have hfr := fr1
     go_wp2_with (first
      |(refine ord_pure rfl rfl rfl (fun K hK => ?_); go_big_quiet_op; refine hK _ ?_; clear hK K)
      |(refine ord_held rfl rfl rfl (x1) (fun K hK => ?_); apply Exists.intro; refine ⟨fun w' hs => ?_, hK _ ?_⟩; (revert hs; dsimp only; (try simp only [and_imp]); intros; go_simp; rfl); clear hK K)
      |(refine ord_keep rfl rfl (x1) (fun K hK => ?_))
      |(refine ord_drop rfl rfl (fun K hK => ?_))
      |(refine ord_nil ?_))
     refine (readP2_any _ (d - 1) rows r w1 (HSUB.out.mod HM1.out (fun _ _ => id)) (by omega) HSN.out hrows).mono ?_
     rintro e w2 ⟨ca, cc, rfl, hO⟩
     have HO := Hi hO
     clear hO
     refine hK _ _ ?_
     clear hK K
     have HLT := HO.out.own.lt
     have HU2 : U32 (rdGoD rows none r) := HU.out 2
     have HDD : Hid (decP rows page = if (rdGoD rows none r).length = rows ∧ encL (rdGoD rows none r) = page then some (rdGoD rows none r) else none) := HD0
     clear HD0 x0 x1 hidx hfr
     generalize rdGoD rows none r = c at *
     by_cases hcl : c.length = rows
     ·have hne1 : ((c.length : Int) != (rows : Int)) = false := by simp; omega
      have hc16 : c.length ≤ 65536 := by omega
      have HCL := Hi hcl
      clear hcl
      have HENC := Hi (encP_any ca cc c w2 HO.out.own.rd HU2 hc16 HLT)
      go_wp2_with (first
       |(refine ord_pure rfl rfl rfl (fun K hK => ?_); go_big_quiet_op; refine hK _ ?_; clear hK K)
       |(refine ord_held rfl rfl rfl (trivial) (fun K hK => ?_); apply Exists.intro; refine ⟨fun w' hs => ?_, hK _ ?_⟩; (revert hs; dsimp only; (try simp only [and_imp]); intros; go_simp; rfl); clear hK K)
       |(refine ord_keep rfl rfl (trivial) (fun K hK => ?_))
       |(refine ord_drop rfl rfl (fun K hK => ?_))
       |(refine ord_nil ?_))
      refine HENC.out.mono ?_
      rintro e w3 ⟨ea, ec, rfl, hE⟩
      have HE := Hi hE
      clear hE HENC
      have HM3 := Hi (HM1.out.trans (HO.out.md.trans HE.out.md))
      go_wp2_with fail
      refine (HEQ.out ea ec (encL c) w3 HE.out.own.rd HM3.out).mono ?_
      rintro e w4 ⟨rfl, hw4⟩
      obtain rfl : w3 = w4 := hw4
      by_cases heq : encL c = page
      ·have HD : Hid (decP rows page = some c) := Hi (by rw [HDD.out, if_pos ⟨HCL.out, heq⟩])
       have hdq : decide (encL c = page) = true := decide_eq_true heq
       have HOC : Mine.Own w3 58 1 ca c.length cc (u32s c) := by
        have h1 := HO.out.own.mod HE.out.md (fun _ _ => id)
        rwa [u32s_len] at h1
       have HOC2 := Hi HOC
       rw [hdq]
       clear hdq heq HDD HEQ
       go_wp2_with fail
       refine (clipU_any ca c.length cc (u32s c) w3 HOC (by omega)).mono ?_
       rintro e w5 ⟨rfl, hw5⟩
       obtain rfl : w3 = w5 := hw5
       clear HOC
       go_wp2_with fail
       refine bodyPost_ret (v := .tuple #[.slice ca c.length c.length, .int .i64 0]) (by simp [results, Tryz.results130, go_sem]) rfl ?_
       rw [HD.out]
       exact ⟨_, rfl, HM3.out, fun c' h => by cases h; exact ⟨ca, c.length, rfl, HOC2.out.rd, fun b hb => ⟨Nat.le_trans HM1.out.size (HO.out.fr b hb), HOC2.out.lt b hb⟩⟩⟩
      ·have HD : Hid (decP rows page = none) := Hi (by rw [HDD.out, if_neg (fun h => heq h.2)])
       have hdq : decide (encL c = page) = false := decide_eq_false heq
       rw [hdq]
       clear hdq heq HDD HEQ
       go_wp2_with fail
       refine bodyPost_ret (v := .tuple #[.slice none 0 0, .int .i64 50]) (by simp [results, Tryz.results130, go_sem]) rfl ?_
       rw [HD.out]
       exact ⟨_, rfl, HM3.out, fun c h => by cases h⟩
     ·have HD : Hid (decP rows page = none) := Hi (by rw [HDD.out, if_neg (fun h => hcl h.1)])
      have hne1 : ((c.length : Int) != (rows : Int)) = true := by simp; omega
      clear hcl HDD HEQ
      go_wp2_with (first
       |(refine ord_pure rfl rfl rfl (fun K hK => ?_); go_big_quiet_op; refine hK _ ?_; clear hK K)
       |(refine ord_held rfl rfl rfl (trivial) (fun K hK => ?_); apply Exists.intro; refine ⟨fun w' hs => ?_, hK _ ?_⟩; (revert hs; dsimp only; (try simp only [and_imp]); intros; go_simp; rfl); clear hK K)
       |(refine ord_keep rfl rfl (trivial) (fun K hK => ?_))
       |(refine ord_drop rfl rfl (fun K hK => ?_))
       |(refine ord_nil ?_))
      refine bodyPost_ret (v := .tuple #[.slice none 0 0, .int .i64 50]) (by simp [results, Tryz.results130, go_sem]) rfl ?_
      rw [HD.out]
      exact ⟨_, rfl, (HM1.out.trans HO.out.md), fun c h => by cases h⟩
    ·
     go_enter Tryz.func130, Tryz.ntmps130
     go_wp2_with fail
     refine wp_region_ord (fun w' => w'.cell? ⟨bb, bo, none⟩ = some (.int .u8 (3 : Nat))) [(0, 1), (0, 2), (1, 3), (0, 4), (0, 7), (0, 8), (0, 9), (2, 0), (0, 5), (0, 6), (3, 10), (0, 11)] (by kernel_rfl) (by kernel_rfl) ?_
     go_wp2_with (first
      |(refine ord_pure rfl rfl rfl (fun K hK => ?_); go_big_quiet_op; refine hK _ ?_; clear hK K)
      |(refine ord_held rfl rfl rfl (x0) (fun K hK => ?_); apply Exists.intro; refine ⟨fun w' hs => ?_, hK _ ?_⟩; (revert hs; dsimp only; (try simp only [and_imp]); intros; go_simp; rfl); clear hK K)
      |(refine ord_keep rfl rfl (x0) (fun K hK => ?_))
      |(refine ord_drop rfl rfl (fun K hK => ?_))
      |(refine ord_nil ?_))
     refine (ways_any _).mono ?_
     rintro e w1 ⟨rfl, hm1⟩
     have x1 : w1.cell? ⟨bb, bo, none⟩ = some (.int .u8 (3 : Nat)) := hm1.cell (by simpa using x0) id
     have HM1 : Hid (Mod (fun _ => False) w w1) := Hi ((Mod.refl _ w).drew.trans hm1)
     refine hK _ _ x1 ?_
     clear hK K hm1
     have hidx := idu2
     have hfr := fr2
     go_wp2_with (first
      |(refine ord_pure rfl rfl rfl (fun K hK => ?_); go_big_quiet_op; refine hK _ ?_; clear hK K)
      |(refine ord_held rfl rfl rfl (x1) (fun K hK => ?_); apply Exists.intro; refine ⟨fun w' hs => ?_, hK _ ?_⟩; (revert hs; dsimp only; (try simp only [and_imp]); intros; go_simp; rfl); clear hK K)
      |(refine ord_keep rfl rfl (x1) (fun K hK => ?_))
      |(refine ord_drop rfl rfl (fun K hK => ?_))
      |(refine ord_nil ?_))
     refine (readP3_any _ (d - 1) rows r w1 (HSUB.out.mod HM1.out (fun _ _ => id)) (by omega) HSN.out hrows).mono ?_
     rintro e w2 ⟨ca, cc, rfl, hO⟩
     have HO := Hi hO
     clear hO
     refine hK _ _ ?_
     clear hK K
     have HLT := HO.out.own.lt
     have HU2 : U32 (rrGo r.length rows r) := HU.out 3
     have HDD : Hid (decP rows page = if (rrGo r.length rows r).length = rows ∧ encL (rrGo r.length rows r) = page then some (rrGo r.length rows r) else none) := HD0
     clear HD0 x0 x1 hidx hfr
     generalize rrGo r.length rows r = c at *
     by_cases hcl : c.length = rows
     ·have hne1 : ((c.length : Int) != (rows : Int)) = false := by simp; omega
      have hc16 : c.length ≤ 65536 := by omega
      have HCL := Hi hcl
      clear hcl
      have HENC := Hi (encP_any ca cc c w2 HO.out.own.rd HU2 hc16 HLT)
      go_wp2_with (first
       |(refine ord_pure rfl rfl rfl (fun K hK => ?_); go_big_quiet_op; refine hK _ ?_; clear hK K)
       |(refine ord_held rfl rfl rfl (trivial) (fun K hK => ?_); apply Exists.intro; refine ⟨fun w' hs => ?_, hK _ ?_⟩; (revert hs; dsimp only; (try simp only [and_imp]); intros; go_simp; rfl); clear hK K)
       |(refine ord_keep rfl rfl (trivial) (fun K hK => ?_))
       |(refine ord_drop rfl rfl (fun K hK => ?_))
       |(refine ord_nil ?_))
      refine HENC.out.mono ?_
      rintro e w3 ⟨ea, ec, rfl, hE⟩
      have HE := Hi hE
      clear hE HENC
      have HM3 := Hi (HM1.out.trans (HO.out.md.trans HE.out.md))
      go_wp2_with fail
      refine (HEQ.out ea ec (encL c) w3 HE.out.own.rd HM3.out).mono ?_
      rintro e w4 ⟨rfl, hw4⟩
      obtain rfl : w3 = w4 := hw4
      by_cases heq : encL c = page
      ·have HD : Hid (decP rows page = some c) := Hi (by rw [HDD.out, if_pos ⟨HCL.out, heq⟩])
       have hdq : decide (encL c = page) = true := decide_eq_true heq
       have HOC : Mine.Own w3 58 1 ca c.length cc (u32s c) := by
        have h1 := HO.out.own.mod HE.out.md (fun _ _ => id)
        rwa [u32s_len] at h1
       have HOC2 := Hi HOC
       rw [hdq]
       clear hdq heq HDD HEQ
       go_wp2_with fail
       refine (clipU_any ca c.length cc (u32s c) w3 HOC (by omega)).mono ?_
       rintro e w5 ⟨rfl, hw5⟩
       obtain rfl : w3 = w5 := hw5
       clear HOC
       go_wp2_with fail
       refine bodyPost_ret (v := .tuple #[.slice ca c.length c.length, .int .i64 0]) (by simp [results, Tryz.results130, go_sem]) rfl ?_
       rw [HD.out]
       exact ⟨_, rfl, HM3.out, fun c' h => by cases h; exact ⟨ca, c.length, rfl, HOC2.out.rd, fun b hb => ⟨Nat.le_trans HM1.out.size (HO.out.fr b hb), HOC2.out.lt b hb⟩⟩⟩
      ·have HD : Hid (decP rows page = none) := Hi (by rw [HDD.out, if_neg (fun h => heq h.2)])
       have hdq : decide (encL c = page) = false := decide_eq_false heq
       rw [hdq]
       clear hdq heq HDD HEQ
       go_wp2_with fail
       refine bodyPost_ret (v := .tuple #[.slice none 0 0, .int .i64 50]) (by simp [results, Tryz.results130, go_sem]) rfl ?_
       rw [HD.out]
       exact ⟨_, rfl, HM3.out, fun c h => by cases h⟩
     ·have HD : Hid (decP rows page = none) := Hi (by rw [HDD.out, if_neg (fun h => hcl h.1)])
      have hne1 : ((c.length : Int) != (rows : Int)) = true := by simp; omega
      clear hcl HDD HEQ
      go_wp2_with (first
       |(refine ord_pure rfl rfl rfl (fun K hK => ?_); go_big_quiet_op; refine hK _ ?_; clear hK K)
       |(refine ord_held rfl rfl rfl (trivial) (fun K hK => ?_); apply Exists.intro; refine ⟨fun w' hs => ?_, hK _ ?_⟩; (revert hs; dsimp only; (try simp only [and_imp]); intros; go_simp; rfl); clear hK K)
       |(refine ord_keep rfl rfl (trivial) (fun K hK => ?_))
       |(refine ord_drop rfl rfl (fun K hK => ?_))
       |(refine ord_nil ?_))
      refine bodyPost_ret (v := .tuple #[.slice none 0 0, .int .i64 50]) (by simp [results, Tryz.results130, go_sem]) rfl ?_
      rw [HD.out]
      exact ⟨_, rfl, (HM1.out.trans HO.out.md), fun c h => by cases h⟩
    ·
     go_enter Tryz.func130, Tryz.ntmps130
     go_wp2_with fail
     refine wp_region_ord (fun w' => w'.cell? ⟨bb, bo, none⟩ = some (.int .u8 (4 : Nat))) [(0, 1), (0, 2), (1, 3), (0, 4), (0, 7), (0, 8), (0, 9), (2, 0), (0, 5), (0, 6), (3, 10), (0, 11)] (by kernel_rfl) (by kernel_rfl) ?_
     go_wp2_with (first
      |(refine ord_pure rfl rfl rfl (fun K hK => ?_); go_big_quiet_op; refine hK _ ?_; clear hK K)
      |(refine ord_held rfl rfl rfl (x0) (fun K hK => ?_); apply Exists.intro; refine ⟨fun w' hs => ?_, hK _ ?_⟩; (revert hs; dsimp only; (try simp only [and_imp]); intros; go_simp; rfl); clear hK K)
      |(refine ord_keep rfl rfl (x0) (fun K hK => ?_))
      |(refine ord_drop rfl rfl (fun K hK => ?_))
      |(refine ord_nil ?_))
     refine (ways_any _).mono ?_
     rintro e w1 ⟨rfl, hm1⟩
     have x1 : w1.cell? ⟨bb, bo, none⟩ = some (.int .u8 (4 : Nat)) := hm1.cell (by simpa using x0) id
     have HM1 : Hid (Mod (fun _ => False) w w1) := Hi ((Mod.refl _ w).drew.trans hm1)
     refine hK _ _ x1 ?_
     clear hK K hm1
     have hidx := idu3
     have hfr := fr3
     go_wp2_with (first
      |(refine ord_pure rfl rfl rfl (fun K hK => ?_); go_big_quiet_op; refine hK _ ?_; clear hK K)
      |(refine ord_held rfl rfl rfl (x1) (fun K hK => ?_); apply Exists.intro; refine ⟨fun w' hs => ?_, hK _ ?_⟩; (revert hs; dsimp only; (try simp only [and_imp]); intros; go_simp; rfl); clear hK K)
      |(refine ord_keep rfl rfl (x1) (fun K hK => ?_))
      |(refine ord_drop rfl rfl (fun K hK => ?_))
      |(refine ord_nil ?_))
     refine (readP4_any _ (d - 1) rows r w1 (HSUB.out.mod HM1.out (fun _ _ => id)) (by omega) hrows).mono ?_
     rintro e w2 ⟨ca, cc, rfl, hO⟩
     have HO := Hi hO
     clear hO
     refine hK _ _ ?_
     clear hK K
     have HLT := HO.out.own.lt
     have HU2 : U32 (rkL rows r) := HU.out 4
     have HDD : Hid (decP rows page = if (rkL rows r).length = rows ∧ encL (rkL rows r) = page then some (rkL rows r) else none) := HD0
     clear HD0 x0 x1 hidx hfr
     generalize rkL rows r = c at *
     by_cases hcl : c.length = rows
     ·have hne1 : ((c.length : Int) != (rows : Int)) = false := by simp; omega
      have hc16 : c.length ≤ 65536 := by omega
      have HCL := Hi hcl
      clear hcl
      have HENC := Hi (encP_any ca cc c w2 HO.out.own.rd HU2 hc16 HLT)
      go_wp2_with (first
       |(refine ord_pure rfl rfl rfl (fun K hK => ?_); go_big_quiet_op; refine hK _ ?_; clear hK K)
       |(refine ord_held rfl rfl rfl (trivial) (fun K hK => ?_); apply Exists.intro; refine ⟨fun w' hs => ?_, hK _ ?_⟩; (revert hs; dsimp only; (try simp only [and_imp]); intros; go_simp; rfl); clear hK K)
       |(refine ord_keep rfl rfl (trivial) (fun K hK => ?_))
       |(refine ord_drop rfl rfl (fun K hK => ?_))
       |(refine ord_nil ?_))
      refine HENC.out.mono ?_
      rintro e w3 ⟨ea, ec, rfl, hE⟩
      have HE := Hi hE
      clear hE HENC
      have HM3 := Hi (HM1.out.trans (HO.out.md.trans HE.out.md))
      go_wp2_with fail
      refine (HEQ.out ea ec (encL c) w3 HE.out.own.rd HM3.out).mono ?_
      rintro e w4 ⟨rfl, hw4⟩
      obtain rfl : w3 = w4 := hw4
      by_cases heq : encL c = page
      ·have HD : Hid (decP rows page = some c) := Hi (by rw [HDD.out, if_pos ⟨HCL.out, heq⟩])
       have hdq : decide (encL c = page) = true := decide_eq_true heq
       have HOC : Mine.Own w3 58 1 ca c.length cc (u32s c) := by
        have h1 := HO.out.own.mod HE.out.md (fun _ _ => id)
        rwa [u32s_len] at h1
       have HOC2 := Hi HOC
       rw [hdq]
       clear hdq heq HDD HEQ
       go_wp2_with fail
       refine (clipU_any ca c.length cc (u32s c) w3 HOC (by omega)).mono ?_
       rintro e w5 ⟨rfl, hw5⟩
       obtain rfl : w3 = w5 := hw5
       clear HOC
       go_wp2_with fail
       refine bodyPost_ret (v := .tuple #[.slice ca c.length c.length, .int .i64 0]) (by simp [results, Tryz.results130, go_sem]) rfl ?_
       rw [HD.out]
       exact ⟨_, rfl, HM3.out, fun c' h => by cases h; exact ⟨ca, c.length, rfl, HOC2.out.rd, fun b hb => ⟨Nat.le_trans HM1.out.size (HO.out.fr b hb), HOC2.out.lt b hb⟩⟩⟩
      ·have HD : Hid (decP rows page = none) := Hi (by rw [HDD.out, if_neg (fun h => heq h.2)])
       have hdq : decide (encL c = page) = false := decide_eq_false heq
       rw [hdq]
       clear hdq heq HDD HEQ
       go_wp2_with fail
       refine bodyPost_ret (v := .tuple #[.slice none 0 0, .int .i64 50]) (by simp [results, Tryz.results130, go_sem]) rfl ?_
       rw [HD.out]
       exact ⟨_, rfl, HM3.out, fun c h => by cases h⟩
     ·have HD : Hid (decP rows page = none) := Hi (by rw [HDD.out, if_neg (fun h => hcl h.1)])
      have hne1 : ((c.length : Int) != (rows : Int)) = true := by simp; omega
      clear hcl HDD HEQ
      go_wp2_with (first
       |(refine ord_pure rfl rfl rfl (fun K hK => ?_); go_big_quiet_op; refine hK _ ?_; clear hK K)
       |(refine ord_held rfl rfl rfl (trivial) (fun K hK => ?_); apply Exists.intro; refine ⟨fun w' hs => ?_, hK _ ?_⟩; (revert hs; dsimp only; (try simp only [and_imp]); intros; go_simp; rfl); clear hK K)
       |(refine ord_keep rfl rfl (trivial) (fun K hK => ?_))
       |(refine ord_drop rfl rfl (fun K hK => ?_))
       |(refine ord_nil ?_))
      refine bodyPost_ret (v := .tuple #[.slice none 0 0, .int .i64 50]) (by simp [results, Tryz.results130, go_sem]) rfl ?_
      rw [HD.out]
      exact ⟨_, rfl, (HM1.out.trans HO.out.md), fun c h => by cases h⟩
end Go.Proofs.YtjoiaejbahdjkaaGreat
