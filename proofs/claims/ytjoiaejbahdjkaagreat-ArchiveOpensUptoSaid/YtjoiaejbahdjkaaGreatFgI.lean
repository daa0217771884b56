/-
  The document's reading of a column of runs, of any: walked.
-/
import Derived.Test.YtjoiaejbahdjkaaGreatCqF
import Derived.Test.YtjoiaejbahdjkaaGreatReads
namespace Go.Proofs.YtjoiaejbahdjkaaGreat
open Go Go.RowKit Go.Mine
set_option linter.unusedVariables false
set_option maxHeartbeats 8000000
set_option maxRecDepth 100000
theorem read3R_any (a : Option Addr) (d rows : Nat) (l : List UInt8) (w : World) (hr : Rd w a (bts l)) (hl : l.length < 2 ^ 40) (hd : l.length ≤ d) (hrows : rows ≤ 65536) :
 Calls Tryz.prog 133 #[.int .i64 3, .slice a l.length d, .int .i64 rows] w (ReadPost (refRead 3 rows l) w) := by
 have HNUM := Hi (numsR_any a l d w hr hl hd)
 have HRR := Hi (refRead_nums (v := 3) (by omega) rows l)
 clear hr
 go_enter Tryz.func133, Tryz.ntmps133
 go_wp2_with fail
 refine HNUM.out.mono ?_
 rintro e w1 (⟨hn, rfl, hm⟩ | ⟨ns, na, nc, hn, hlt, hnl, rfl, hO⟩)
 ·have H0 : Hid (refRead 3 rows l = none) := Hi (by rw [HRR.out, hn]; rfl)
  clear hn
  go_wp2_with fail
  refine bodyPost_ret (v := .tuple #[.slice none 0 0, .bool false]) (by simp [results, Tryz.results133, go_sem]) rfl ?_
  rw [H0.out]
  exact ⟨_, rfl, hm, fun c h => by cases h⟩
 ·have H0 : Hid (refRead 3 rows l = refGo 3 rows ns.length [] none ns) := Hi (by rw [HRR.out, hn]; rfl)
  have HNS := Hi hO; have HNL := Hi hlt
  have hnsl : ns.length < 2 ^ 40 := by omega
  clear hn hlt hO HNUM HRR hnl
  go_wp2_with fail
  go_loopw [8, 16, 17, 18, 19, 20] (fun cv lv iv _ _ _ wr => ∃ (i f : Nat) (acc : List Nat) (L : Option Nat) (la : Int) (oa : Option Addr) (oc : Nat), iv = .int .i64 i ∧ i ≤ ns.length ∧ lv = .int .i64 la ∧ cv = .slice oa acc.length oc ∧ acc.length ≤ rows ∧ ns.length - i ≤ f ∧ Hid (refRead 3 rows l = refGo 3 rows f acc L (ns.drop i)) ∧ Hid (VOwn 58 w1 wr oa oc (u32s acc))) (fun _ _ iv _ _ _ _ => ns.length - (intOf iv).toNat)
  case atStart => exact ⟨0, ns.length, [], none, 0, none, 0, rfl, Nat.zero_le _, rfl, rfl, Nat.zero_le _, by omega, H0, Hi (VOwn.nil _ w1)⟩
  case round =>
   obtain ⟨i, f, acc, L, la, oa, oc, rfl, hi, rfl, rfl, hal, hf, hG, hO⟩ := hrel
   by_cases hlt : i < ns.length
   ·have hrd := HNS.out.own.rd.mod hO.out.md (fun _ _ => id)
    obtain ⟨b, o, rfl, x0⟩ := u64_cell hrd hlt
    obtain ⟨f', rfl⟩ : ∃ f', f = f' + 1 := ⟨f - 1, by omega⟩
    have hx64 := HNL.out _ (List.getElem_mem hlt)
    by_cases hlt2 : i + 1 < ns.length
    ·obtain ⟨b', o', e', y0⟩ := u64_cell hrd hlt2
     cases e'
     have hn64 := HNL.out _ (List.getElem_mem hlt2)
     have HST : Hid (refRead 3 rows l = if rows - acc.length < ns[i + 1] ∨ 2 ^ 32 ≤ ns[i] then none else refGo 3 rows f' (acc ++ List.replicate ns[i + 1] ns[i]) (some ns[i]) (ns.drop (i + 1 + 1))) := Hi (by
      rw [hG.out, List.drop_eq_getElem_cons hlt, List.drop_eq_getElem_cons hlt2, refGo_three])
     clear hG hrd
     generalize ns[i] = x at *
     generalize ns[i + 1] = M at *
     by_cases hbig : rows - acc.length < M
     ·have H1 : Hid (refRead 3 rows l = none) := Hi (by rw [HST.out, if_pos (.inl hbig)])
      clear HST
      go_wp2_with fail
      refine bodyPost_ret (v := .tuple #[.slice none 0 0, .bool false]) (by simp [results, Tryz.results133, go_sem]) rfl ?_
      rw [H1.out]
      exact ⟨_, rfl, HNS.out.md.trans hO.out.md, fun c h => by cases h⟩
     ·by_cases h32 : 2 ^ 32 ≤ x
      ·have H1 : Hid (refRead 3 rows l = none) := Hi (by rw [HST.out, if_pos (.inr h32)])
       clear HST
       go_wp2_with fail
       refine bodyPost_ret (v := .tuple #[.slice none 0 0, .bool false]) (by simp [results, Tryz.results133, go_sem]) rfl ?_
       rw [H1.out]
       exact ⟨_, rfl, HNS.out.md.trans hO.out.md, fun c h => by cases h⟩
      ·have H1 : Hid (refRead 3 rows l = refGo 3 rows f' (acc ++ List.replicate M x) (some x) (ns.drop (i + 1 + 1))) := Hi (by rw [HST.out, if_neg (by omega)])
       clear HST
       have hroom : acc.length + M ≤ rows := by omega
       go_wp2_with fail
       go_loopw [8, 20] (fun cv kv wr => ∃ (k : Nat) (oa' : Option Addr) (oc' : Nat), kv = .int .i64 k ∧ k ≤ M ∧ cv = .slice oa' (acc.length + k) oc' ∧ Hid (VOwn 58 w1 wr oa' oc' (u32s (acc ++ List.replicate k x)))) (fun _ kv _ => M - (intOf kv).toNat)
       case atStart => exact ⟨0, oa, oc, rfl, Nat.zero_le _, rfl, by simpa using hO⟩
       case round =>
        obtain ⟨k, oa', oc', rfl, hk, rfl, hO'⟩ := hrel
        by_cases hlk : k < M
        ·have HOWN : Hid (Mine.Own wr 58 1 oa' (acc.length + k) oc' (u32s (acc ++ List.replicate k x))) := Hi (by
          have h1 := hO'.out.own
          rw [u32s_len, List.length_append, List.length_replicate] at h1
          exact h1)
         have hbig : acc.length + k + 1 ≤ 65536 := (by omega)
         go_wp2_with (at_builtin; refine wpL_appendN (us := [.int .u32 (x : Nat)]) rfl (.tmp 161) (.tmp 164) 162 rfl tiU32 rfl HOWN.out rfl rfl rfl (by show (acc.length + k + 1) * 4 ≤ _; omega) (by show acc.length + k + 1 ≤ _; unfold maxLen; omega) ?_; intro a3 c3 w3 hO3 hG3 _
                      have HO3 : Hid (VOwn 58 w1 w3 a3 c3 (u32s (acc ++ List.replicate (k + 1) x))) := Hi (by
                       rw [snoc_repl, u32s_snoc]
                       exact hO'.out.app hG3 hO3 (by simp)); clear hO3 hG3)
         go_roundw
         case rel => exact ⟨k + 1, a3, c3, by go_num, hlk, rfl, HO3⟩
         case measure => simp [intOf]; omega
        ·have HK1 := Hi (show k = M by omega)
         go_wp2_with fail
         go_roundw
         case rel => exact ⟨i + 1 + 1, f', acc ++ List.replicate k x, some x, (x : Nat), oa', oc', by go_num, by omega, rfl, by simp, by simp; have := HK1.out; omega, by omega, Hi (by rw [HK1.out]; exact H1.out), hO'⟩
         case measure => simp [intOf]; omega
    ·have hd1 : ns.drop (i + 1) = [] := List.drop_of_length_le (by omega)
     have H1 : Hid (refRead 3 rows l = none) := Hi (by rw [hG.out, List.drop_eq_getElem_cons hlt, hd1, refGo_one3])
     clear hG hrd hd1
     generalize ns[i] = x at *
     go_wp2_with fail
     refine bodyPost_ret (v := .tuple #[.slice none 0 0, .bool false]) (by simp [results, Tryz.results133, go_sem]) rfl ?_
     rw [H1.out]
     exact ⟨_, rfl, HNS.out.md.trans hO.out.md, fun c h => by cases h⟩
   ·skip
    obtain rfl : i = ns.length := by omega
    have H1 : Hid (refRead 3 rows l = if acc.length = rows then some acc else none) := Hi (by rw [hG.out, List.drop_length, refGo_nil])
    by_cases hfull : acc.length = rows
    ·rw [if_pos hfull] at H1
     have hbe : ((acc.length : Int) == (rows : Int)) = true := by simp; omega
     have HF := Hi hfull
     clear hfull hG hf
     go_wp2_with fail
     refine bodyPost_ret (v := .tuple #[.slice oa acc.length oc, .bool true]) (by simp [results, Tryz.results133, go_sem]) rfl ?_
     rw [H1.out]
     refine ⟨_, rfl, HNS.out.md.trans hO.out.md, fun c h => ?_⟩
     cases h
     exact ⟨oa, oc, rfl, hO.out.own, fun b hb => Nat.le_trans HNS.out.md.size (hO.out.fr b hb), HNS.out.md.trans hO.out.md⟩
    ·rw [if_neg hfull] at H1
     have hbe : ((acc.length : Int) == (rows : Int)) = false := by simp; omega
     clear hfull hG hf
     go_wp2_with fail
     refine bodyPost_ret (v := .tuple #[.slice oa acc.length oc, .bool false]) (by simp [results, Tryz.results133, go_sem]) rfl ?_
     rw [H1.out]
     exact ⟨_, rfl, HNS.out.md.trans hO.out.md, fun c h => by cases h⟩
theorem readR_any (v : Nat) (hv1 : 1 ≤ v) (hv4 : v ≤ 4) (a : Option Addr) (d rows : Nat) (l : List UInt8) (w : World) (hr : Rd w a (bts l)) (hl : l.length < 2 ^ 40) (hd : l.length ≤ d) (hrows : rows ≤ 65536) :
 Calls Tryz.prog 133 #[.int .i64 (v : Nat), .slice a l.length d, .int .i64 rows] w (ReadPost (refRead v rows l) w) := by
 match v, hv1, hv4 with
 | 1, _, _ => exact read1R_any a d rows l w hr hl hd hrows
 | 2, _, _ => exact read2R_any a d rows l w hr hl hd hrows
 | 3, _, _ => exact read3R_any a d rows l w hr hl hd hrows
 | 4, _, _ => exact read4R_any a d rows l w hr hl hd hrows
end Go.Proofs.YtjoiaejbahdjkaaGreat
/-
  The document's Decode of a column: walked.
-/
namespace Go.Proofs.YtjoiaejbahdjkaaGreat
open Go Go.RowKit Go.Mine
set_option linter.unusedVariables false
set_option maxHeartbeats 8000000
set_option maxRecDepth 100000
theorem take_snoc_ne {l1 l2 : List UInt8} (k : Nat) (h : k < l1.length) (h2 : k < l2.length) (hne : l1[k].toNat ≠ l2[k].toNat) : l1 ≠ l2 := by
 rintro rfl; exact hne rfl
theorem ret_bool {a b : Bool} (h : a = b) : Ending.returned (.bool a) = .returned (.bool b) := by rw [h]
theorem sameR_any (a1 a2 : Option Addr) (d1 d2 : Nat) (l1 l2 : List UInt8) (w : World) (h1 : Rd w a1 (bts l1)) (h2 : Rd w a2 (bts l2)) (hl1 : l1.length < 2 ^ 40) (hl2 : l2.length < 2 ^ 40) :
 Calls Tryz.prog 134 #[.slice a1 l1.length d1, .slice a2 l2.length d2] w fun e w' => e = .returned (.bool (decide (l1 = l2))) ∧ Mod (fun _ => False) w w' := by
 have H1 := Hi h1; have H2 := Hi h2
 clear h1 h2
 by_cases hlen : l1.length = l2.length
 ·have hle : ((l1.length : Int) != (l2.length : Int)) = false := by simp; omega
  have HLEN := Hi hlen
  clear hlen
  go_enter Tryz.func134, Tryz.ntmps134
  go_wp2_with fail
  go_loopw [5] (fun iv wr => ∃ k : Nat, iv = .int .i64 k ∧ k ≤ l1.length ∧ Hid (l1.take k = l2.take k) ∧ Hid (Mod (fun _ => False) w wr)) (fun iv _ => l1.length - (intOf iv).toNat)
  case atStart => exact ⟨0, rfl, Nat.zero_le _, Hi rfl, Hi (Mod.refl _ _)⟩
  case round =>
   obtain ⟨k, rfl, hk, hT, hM⟩ := hrel
   by_cases hlt : k < l1.length
   ·have hlt2 : k < l2.length := by rw [← HLEN.out]; exact hlt
    obtain ⟨b1, o1, rfl, x0⟩ := byte_cell (H1.out.mod hM.out (fun _ _ => id)) hlt
    obtain ⟨b2, o2, rfl, y0⟩ := byte_cell (H2.out.mod hM.out (fun _ _ => id)) hlt2
    by_cases heq : l1[k].toNat = l2[k].toNat
    ·have HT2 : Hid (l1.take (k + 1) = l2.take (k + 1)) := Hi (by
      rw [List.take_succ_eq_append_getElem hlt, List.take_succ_eq_append_getElem hlt2, hT.out, UInt8.toNat_inj.1 heq])
     rw [heq] at x0
     clear heq
     generalize l2[k].toNat = q at *
     go_wp2_with fail
     refine wp_region_ord (fun w' => w'.cell? ⟨b1, o1 + k, none⟩ = some (.int .u8 (q : Nat)) ∧ w'.cell? ⟨b2, o2 + k, none⟩ = some (.int .u8 (q : Nat))) [(0, 0), (0, 1), (0, 2), (1, 3), (0, 4), (0, 5), (0, 6), (1, 7), (0, 8)] (by kernel_rfl) (by kernel_rfl) ?_
     go_wp2_with (first
      |(refine ord_pure rfl rfl rfl (fun K hK => ?_); go_big_quiet_op; refine hK _ ?_; clear hK K)
      |(refine ord_held rfl rfl rfl (⟨x0, y0⟩) (fun K hK => ?_); apply Exists.intro; refine ⟨fun w' hs => ?_, hK _ ?_⟩; (revert hs; dsimp only; (try simp only [and_imp]); intros; go_simp; rfl); clear hK K)
      |(refine ord_nil ?_))
     go_roundw
     case rel => exact ⟨k + 1, by go_num, hlt, HT2, Hi hM.out.drew⟩
     case measure => simp [intOf]; omega
    ·have HNE := Hi (take_snoc_ne k hlt hlt2 heq)
     generalize l1[k].toNat = p at *
     generalize l2[k].toNat = q at *
     have hpq : ((p : Int) != (q : Int)) = true := by simp; omega
     clear heq
     go_wp2_with fail
     refine wp_region_ord (fun w' => w'.cell? ⟨b1, o1 + k, none⟩ = some (.int .u8 (p : Nat)) ∧ w'.cell? ⟨b2, o2 + k, none⟩ = some (.int .u8 (q : Nat))) [(0, 0), (0, 1), (0, 2), (1, 3), (0, 4), (0, 5), (0, 6), (1, 7), (0, 8)] (by kernel_rfl) (by kernel_rfl) ?_
     go_wp2_with (first
      |(refine ord_pure rfl rfl rfl (fun K hK => ?_); go_big_quiet_op; refine hK _ ?_; clear hK K)
      |(refine ord_held rfl rfl rfl (⟨x0, y0⟩) (fun K hK => ?_); apply Exists.intro; refine ⟨fun w' hs => ?_, hK _ ?_⟩; (revert hs; dsimp only; (try simp only [and_imp]); intros; go_simp; rfl); clear hK K)
      |(refine ord_nil ?_))
     go_ret
     exact ⟨ret_bool (decide_eq_false HNE.out).symm, hM.out.drew⟩
   ·obtain rfl : k = l1.length := by omega
    have HEQ : Hid (l1 = l2) := Hi (by
     have h0 := hT.out
     rw [List.take_length, HLEN.out, List.take_length] at h0
     exact h0)
    clear hT
    go_wp2_with fail
    go_ret
    exact ⟨ret_bool (decide_eq_true HEQ.out).symm, hM.out⟩
 ·have hle : ((l1.length : Int) != (l2.length : Int)) = true := by simp; omega
  have HNE : Hid (l1 ≠ l2) := Hi (fun e => hlen (by rw [e]))
  clear hlen
  go_enter Tryz.func134, Tryz.ntmps134
  go_wp2_with fail
  go_ret
  exact ⟨ret_bool (decide_eq_false HNE.out).symm, Mod.refl _ _⟩
def DecPost (r : Option (List Nat)) (w : World) (e : Ending) (w' : World) : Prop :=
 ∃ x, e = .returned (.tuple #[x, .int .i64 (if r.isSome then (0 : Nat) else (50 : Nat))]) ∧ Mod (fun _ => False) w w' ∧ (r = none → x = .slice none 0 0) ∧ ∀ c, r = some c → ∃ a' c', x = .slice a' c.length c' ∧ VOwn 58 w w' a' c' (u32s c)
theorem decR_any (a : Option Addr) (d rows : Nat) (l : List UInt8) (w : World) (hr : Rd w a (bts l)) (hl : l.length < 2 ^ 40) (hd : l.length ≤ d) (hrows : rows ≤ 65536) :
 Calls Tryz.prog 111 #[.slice a l.length d, .int .i64 rows] w (DecPost (decR rows l) w) := by
 have HR := Hi hr
 clear hr
 cases l with
 | nil =>
   have HD : Hid (decR rows [] = none) := Hi rfl
   go_enter Tryz.func111, Tryz.ntmps111
   go_wp2_with fail
   refine bodyPost_ret (v := .tuple #[.slice none 0 0, .int .i64 50]) (by simp [results, Tryz.results111, go_sem]) rfl ?_
   rw [HD.out]
   exact ⟨_, rfl, Mod.refl _ _, fun _ => rfl, fun c h => by cases h⟩
 | cons b r =>
   obtain ⟨bb, bo, rfl, x0⟩ := byte_cell HR.out (i := 0) (by simp)
   rw [List.getElem_cons_zero, Nat.add_zero] at x0
   have hb := b.toNat_lt
   have hdr : decR rows (b :: r) = if b.toNat < 1 ∨ 4 < b.toNat then none else match refRead b.toNat rows r with
    | none => none
    | some c => if encL c = b :: r then some c else none := rfl
   have HRT : Hid (Rd w (subA (some ⟨bb, bo, none⟩) d 1 1) (bts r)) := Hi (by
    have h1 := subA_rd HR.out (c := d) (lo := 1) (k := 1) (fun h => by rw [bts_length]; rw [List.length_cons] at hd ⊢; omega)
    exact h1)
   have HRW := HR
   rw [List.length_cons] at hl hd
   have hsl := run_slice_lo' ti24 (some ⟨bb, bo, none⟩) (r.length + 1) d (1 : Int) (by omega) (by omega)
   have HPL : Hid ((b :: r).length = r.length + 1) := Hi rfl
   generalize hbl : b :: r = page at *
   generalize b.toNat = v at *
   have hq0 : ((r.length : Int) + 1 == 0) = false := by simp; omega
   rw [HPL.out]
   by_cases hv : v < 1 ∨ 4 < v
   ·rw [if_pos hv] at hdr
    have HD := Hi hdr
    clear hdr
    by_cases hv1 : v < 1
    ·clear hv
     go_enter Tryz.func111, Tryz.ntmps111
     go_wp2_with fail
     refine bodyPost_ret (v := .tuple #[.slice none 0 0, .int .i64 50]) (by simp [results, Tryz.results111, go_sem]) rfl ?_
     rw [HD.out]
     exact ⟨_, rfl, Mod.refl _ _, fun _ => rfl, fun c h => by cases h⟩
    ·have hv4 : 4 < v := by omega
     clear hv
     go_enter Tryz.func111, Tryz.ntmps111
     go_wp2_with fail
     refine bodyPost_ret (v := .tuple #[.slice none 0 0, .int .i64 50]) (by simp [results, Tryz.results111, go_sem]) rfl ?_
     rw [HD.out]
     exact ⟨_, rfl, Mod.refl _ _, fun _ => rfl, fun c h => by cases h⟩
   ·rw [if_neg hv] at hdr
    have hv1 : 1 ≤ v := by omega
    have hv4 : v ≤ 4 := by omega
    have hv1' : ¬ v < 1 := by omega
    have hv4' : ¬ 4 < v := by omega
    have HDR := Hi hdr
    clear hdr hv
    have HRD := Hi (fun W (m : Mod (fun _ => False) w W) => readR_any v hv1 hv4 (subA (some ⟨bb, bo, none⟩) d 1 1) (d - 1) rows r W (HRT.out.mod m (fun _ _ => id)) (by omega) (by omega) hrows)
    go_enter Tryz.func111, Tryz.ntmps111
    go_wp2_with fail
    refine wp_region_ord (fun w' => True) [(0, 0), (0, 1), (0, 4), (0, 5), (0, 6), (3, 2), (0, 3), (3, 7), (0, 8), (0, 9), (0, 10), (0, 11), (0, 12)] (by kernel_rfl) (by kernel_rfl) ?_
    go_wp2_with (first
     |(refine ord_pure rfl rfl rfl (fun K hK => ?_); go_big_quiet_op; refine hK _ ?_; clear hK K)
     |(refine ord_drop rfl rfl (fun K hK => ?_))
     |(refine ord_nil ?_))
    refine (HRD.out _ (Mod.refl _ w).drew).mono ?_
    rintro e w2 ⟨x, rfl, hm, hx⟩
    have HM := Hi ((Mod.refl (fun _ => False) w).drew.trans hm)
    clear HRD
    cases hrr : refRead v rows r with
    | none =>
      have HD : Hid (decR rows page = none) := Hi (by rw [HDR.out, hrr])
      clear hx hrr
      simp only [Option.isSome_none]
      go_wp2_with (first
       |(refine ord_pure rfl rfl rfl (fun K hK => ?_); go_big_quiet_op; refine hK _ ?_; clear hK K)
       |(refine ord_drop rfl rfl (fun K hK => ?_))
       |(refine ord_nil ?_))
      refine bodyPost_ret (v := .tuple #[.slice none 0 0, .int .i64 50]) (by simp [results, Tryz.results111, go_sem]) rfl ?_
      rw [HD.out]
      exact ⟨_, rfl, HM.out, fun _ => rfl, fun c h => by cases h⟩
    | some c =>
      obtain ⟨a', c', rfl, hO⟩ := hx c hrr
      obtain ⟨hu, hcl⟩ := refRead_spec hrr
      have HDC : Hid (decR rows page = if encL c = page then some c else none) := Hi (by rw [HDR.out, hrr])
      have HENC := Hi (fun W (m : Mod (fun _ => False) w2 W) => encR_any a' c' c W (hO.own.rd.mod m (fun _ _ => id)) hu (by omega))
      have HO : Hid (VOwn 58 w w2 a' c' (u32s c)) := Hi ⟨hO.own, fun b hb => hO.fr b hb, HM.out⟩
      have HEL : Hid ((encL c).length < 2 ^ 40) := Hi (by
       have := layW_len hu (by omega) (wayN c)
       show (UInt8.ofNat (wayN c) :: layW (wayN c) c).length < _
       rw [List.length_cons]; omega)
      have hcr : c.length ≤ 65536 := by omega
      clear hx hrr hO hu hm hcl
      simp only [Option.isSome_some]
      go_wp2_with (first
       |(refine ord_pure rfl rfl rfl (fun K hK => ?_); go_big_quiet_op; refine hK _ ?_; clear hK K)
       |(refine ord_drop rfl rfl (fun K hK => ?_))
       |(refine ord_nil ?_))
      refine (HENC.out w2 (Mod.refl _ _)).mono ?_
      rintro e w3 ⟨a3, c3, rfl, hB⟩
      have HSM := Hi (sameR_any a3 (some ⟨bb, bo, none⟩) c3 d (encL c) page w3 hB.own.rd (HRW.out.mod (HM.out.trans hB.md) (fun _ _ => id)) HEL.out (by rw [HPL.out]; omega))
      rw [HPL.out] at HSM
      have HB := Hi hB.md
      clear hB HENC
      go_wp2_with fail
      refine HSM.out.mono ?_
      rintro e w4 ⟨rfl, hm4⟩
      have HM4 := Hi (HB.out.trans hm4)
      clear hm4 HSM
      by_cases he : encL c = page
      ·have HD : Hid (decR rows page = some c) := Hi (by rw [HDC.out, if_pos he])
       rw [decide_eq_true he]
       clear he
       go_wp2_with fail
       refine bodyPost_ret (v := .tuple #[.slice a' c.length c', .int .i64 0]) (by simp [results, Tryz.results111, go_sem]) rfl ?_
       rw [HD.out]
       refine ⟨_, rfl, HM.out.trans HM4.out, (fun h => by cases h), fun c2 h => ?_⟩
       cases h
       exact ⟨a', c', rfl, HO.out.mod0 HM4.out⟩
      ·have HD : Hid (decR rows page = none) := Hi (by rw [HDC.out, if_neg he])
       rw [decide_eq_false he]
       clear he
       go_wp2_with fail
       refine bodyPost_ret (v := .tuple #[.slice none 0 0, .int .i64 50]) (by simp [results, Tryz.results111, go_sem]) rfl ?_
       rw [HD.out]
       exact ⟨_, rfl, HM.out.trans HM4.out, fun _ => rfl, fun c h => by cases h⟩
end Go.Proofs.YtjoiaejbahdjkaaGreat
namespace Go.Proofs.YtjoiaejbahdjkaaGreat
open Go Go.RowKit Go.Mine
set_option maxHeartbeats 400000
set_option maxRecDepth 100000
set_option linter.unusedVariables false
theorem RfAt.modE {S : Nat → Prop} {w w' : World} {p : Nat} {a : Option Addr} {c : Nat} {l : List UInt8} {at_ f : Nat} (h : RfAt w p a c l at_ f) (m : Mod S w w') (h1 : ¬ S p) (h2 : ∀ b, blk a = some b → l = [] ∨ ¬ S b) : RfAt w' p a c l at_ f :=
 ⟨h.ne, h.le, h.lc, h.len, m.at h.heap h1, by
  by_cases hl : l = []
  ·subst hl; exact Rd.nil _ _
  ·exact h.rd.mod m (fun b hb => (h2 b hb).resolve_left hl)⟩
theorem RfAt.blt {w : World} {p : Nat} {a : Option Addr} {c : Nat} {l : List UInt8} {at_ f : Nat} (h : RfAt w p a c l at_ f) (b : Nat) (hb : blk a = some b) : l = [] ∨ b < w.heap.size := by
 by_cases hl : l = []
 ·exact .inl hl
 ·exact .inr (h.rd.lt (by simpa [bts] using hl) b hb)
theorem refRead_any (a : Option Addr) (c : Nat) (l : List UInt8) (w : World) (hr : Rd w a (bts l)) (hlen : l.length < 2 ^ 40) (hlc : l.length ≤ c) (hlt : ∀ b, blk a = some b → b < w.heap.size) :
 Calls Tryz.prog 110 #[.slice a l.length c] w fun e w' => ∃ v, e = .returned (.tuple #[v, .int .i64 (readL l).2.1, .int .i64 (readL l).2.2]) ∧ RdRes w w' (readL l).1 v := by
 obtain ⟨p, hp⟩ : ∃ p, p = w.heap.size := ⟨_, rfl⟩
 have H1 : Hid (RfAt (w.alloc (.cells #[.slice a l.length c, .int .i64 0, .int .i64 0] 158)) w.heap.size a c l 0 0) :=
  ⟨fun h => by have := hlt _ h; omega, Nat.zero_le _, hlc, hlen, heap_alloc_new w _, hr.mod ((Mod.refl (fun _ => False) w).alloc _) (fun _ _ => id)⟩
 have HM1 := Hi ((Mod.refl (fun _ => False) w).alloc (.cells #[.slice a l.length c, .int .i64 0, .int .i64 0] 158))
 clear hr hlt
 have HNum := Hi (rfNum_any w.heap.size a c l 0 0 _ H1.out)
 unfold readL
 generalize stNum l 0 0 = g at *
 obtain ⟨n, at0, f0⟩ := g
 simp only at *
 by_cases hf0 : f0 = 0
 ·subst hf0
  rw [if_neg (by simp)]
  by_cases hbig : 4194304 < n
  ·rw [if_pos hbig]
   go_enter Tryz.func110, Tryz.ntmps110
   go_wp2_with (first
    |(go_at_call 109; refine HNum.out.mono ?_; rintro e w2 ⟨rfl, h2, hM2⟩
      have hc2 : w2.cell? ⟨w.heap.size, 2, none⟩ = some (.int .i64 0) := cell_at h2.heap rfl
      have H2 := Hi h2; have HM2 := Hi (HM1.out.step hM2 (fun i hi hs => by omega)); clear h2 hM2))
   go_ret3
   exact ⟨.slice none 0 0, rfl, RdRes.nil HM2.out⟩
  ·rw [if_neg hbig]
   go_enter Tryz.func110, Tryz.ntmps110
   go_wp2_with (first
    |(go_at_call 109; refine HNum.out.mono ?_; rintro e w2 ⟨rfl, h2, hM2⟩
      have hc2 : w2.cell? ⟨w.heap.size, 2, none⟩ = some (.int .i64 0) := cell_at h2.heap rfl
      have H2 := Hi h2; have HM2 := Hi (HM1.out.step hM2 (fun i hi hs => by omega)); clear h2 hM2))
   clear HNum H1 HM1
   have HP : Hid (w.heap.size ≤ p) := Nat.le_of_eq hp.symm
   rw [← hp] at H2 hc2 ⊢
   clear hp hc2
   go_loopw [7, 8] (fun t i wr => ∃ (acc : List ByteArray) (a2 : Option Addr) (c2 k at_ : Nat), t = .slice a2 k c2 ∧ i = .int .i64 k ∧ k ≤ n ∧ Hid (acc.length = k) ∧ Hid (Own wr 9 1 a2 k c2 (sts acc)) ∧ Hid (RfAt wr p a c l at_ 0) ∧
    Hid (∀ b, blk a2 = some b → w.heap.size ≤ b ∧ b ≠ p ∧ (l = [] ∨ blk a ≠ some b)) ∧ Hid (Mod (fun _ => False) w wr) ∧ Hid (rdGo l n at0 [] = rdGo l (n - k) at_ acc)) (fun t i _ => n - (intOf i).toNat)
   case atStart => exact ⟨[], none, 0, 0, at0, rfl, rfl, by omega, rfl, Own.nil _ _ _, H2, by intro b h; simp at h, HM2, rfl⟩
   case round =>
    obtain ⟨acc, a2, c2, k, at_, rfl, rfl, hk, hL, hO, hR, hB, hM, hE⟩ := hrel
    have hp := HP.out
    by_cases hlt : k < n
    ·have hT := rfText_any p a c 4096 l at_ 0 wr hR.out (by omega)
     obtain ⟨m, hm⟩ : ∃ m, m = n - (k + 1) := ⟨_, rfl⟩
     have hnk : n - k = m + 1 := by omega
     have hErr := fun h => rdGo_err (l := l) (m := m) (at_ := at_) (acc := acc) h
     have hFell := fun h h2 => rdGo_fell (l := l) (m := m) (at_ := at_) (acc := acc) h h2
     have hOn := fun h h2 => rdGo_on (l := l) (m := m) (at_ := at_) (acc := acc) h h2
     rw [← hnk, ← hE.out] at hErr hFell hOn
     generalize stText 4096 l at_ 0 = g at *
     obtain ⟨x, at2, e2⟩ := g
     simp only at *
     generalize (⟨x.toArray⟩ : ByteArray) = t at *
     clear x
     have HT := Hi hT; have HErr := Hi hErr; have HFell := Hi hFell; have HOn := Hi hOn; have HMM := Hi hm
     clear hT hErr hFell hOn hm hnk hE
     by_cases he2 : e2 = 0
     ·subst he2
      clear HErr
      by_cases hk0 : 0 < k
      ·obtain ⟨g, rfl⟩ := hO.out.atHead (by omega)
       have hgp : g ≠ p := (hB.out g rfl).2.1
       have hq1 : k - 1 < acc.length := by have := hL.out; omega
       have hcq : wr.cell? ⟨g, k - 1, none⟩ = some (.string acc[k - 1]) := by
        obtain ⟨b, o, e, hc⟩ := hO.out.rd (k - 1) (.string acc[k - 1]) (by simp [sts, hq1])
        cases e
        simpa using hc
       have hfe : fell acc t = !blt acc[k - 1] t := fell_last (by have := hL.out; subst this; simp [hq1]) (by omega)
       generalize acc[k - 1] = q at *
       have hkn : ((k : Int) - 1).toNat = k - 1 := by omega
       by_cases hb2 : blt q t = true
       ·have hb3 : Op.bytesLess q.toList t.toList = true := hb2
        rw [hb2] at hfe
        have HB2 := Hi hb2; have HFE := Hi hfe; clear hb2 hfe HFell
        go_wp2_with (first
         |(go_at_call 108; refine HT.out.mono ?_; rintro e w3 ⟨rfl, h3, hM3⟩
           have hcq3 := hM3.cell hcq hgp; clear hcq
           have hc2 : w3.cell? ⟨p, 2, none⟩ = some (.int .i64 0) := cell_at h3.heap rfl
           have H3 := Hi h3; have HM3 := Hi hM3; clear h3 hM3)
         |(at_builtin; refine wpL_appendN (us := [_]) rfl (.tmp 55) (.tmp 57) 81 rfl ti22r rfl (hO.out.mod HM3.out (by intro b hb; simp at hb; omega)) rfl rfl rfl (by omega) (by unfold maxLen; omega) ?_; intro a4 c4 w4 hO4 hG4 _
           have HO4 := Hi hO4; have HG4 := Hi hG4; clear hO4 hG4))
        go_roundw
        case rel =>
         refine ⟨acc ++ [t], a4, c4, k + 1, at2, rfl, by go_num, by omega, by unfold Hid; rw [List.length_append, hL.out]; rfl, Hi (by rw [sts_append]; exact HO4.out), Hi (H3.out.modE HG4.out.mod (by simp; exact hgp) (fun b hb => (hB.out g rfl).2.2.imp id (fun h e => h (by simp at e; subst e; exact hb)))), ?_, ?_, Hi (by rw [HOn.out (by simp) HFE.out, HMM.out])⟩
         ·intro b hb
          rcases HG4.out.pos with e | ⟨b', e, hb'⟩
          ·rw [e] at hb; exact hB.out b hb
          ·rw [e] at hb; cases hb
           have h1 := hM.out.size
           have h2 := HM3.out.size
           have h3 := (Array.getElem?_eq_some_iff.1 H3.out.heap).1
           refine ⟨by omega, by omega, ?_⟩
           by_cases hl : l = []
           ·exact .inl hl
           ·refine .inr (fun h => ?_)
            have := (H3.out.blt _ h).resolve_left hl
            omega
         ·exact (hM.out.step HM3.out (fun i hi hs => by omega)).step HG4.out.mod (fun i hi hs => by have := (hB.out g rfl).1; simp at hs; omega)
        case measure => simp [intOf]; omega
       ·have hb3 : Op.bytesLess q.toList t.toList = false := by simpa [blt] using hb2
        have hfe2 : fell acc t = true := by rw [hfe]; simpa using hb2
        have HFE := Hi hfe2; clear hb2 hfe hfe2 HOn
        go_wp2_with (first
         |(go_at_call 108; refine HT.out.mono ?_; rintro e w3 ⟨rfl, h3, hM3⟩
           have hcq3 := hM3.cell hcq hgp; clear hcq
           have hc2 : w3.cell? ⟨p, 2, none⟩ = some (.int .i64 0) := cell_at h3.heap rfl
           have H3 := Hi h3; have HM3 := Hi (hM.out.step hM3 (fun i hi hs => by omega)); clear h3 hM3))
        go_ret3
        rw [HFell.out (by simp) HFE.out]
        exact ⟨.slice none 0 0, rfl, RdRes.nil HM3.out⟩
      ·obtain rfl : k = 0 := by omega
       have hacc : acc = [] := List.eq_nil_of_length_eq_zero hL.out
       subst hacc
       obtain ⟨rfl, _, rfl⟩ | ⟨g, _, rfl, _⟩ := hO.out.2
       ·clear HFell
        go_wp2_with (first
         |(go_at_call 108; refine HT.out.mono ?_; rintro e w3 ⟨rfl, h3, hM3⟩
           skip
           have hc2 : w3.cell? ⟨p, 2, none⟩ = some (.int .i64 0) := cell_at h3.heap rfl
           have H3 := Hi h3; have HM3 := Hi hM3; clear h3 hM3)
         |(at_builtin; refine wpL_appendN (us := [_]) rfl (.tmp 55) (.tmp 57) 81 rfl ti22r rfl (hO.out.mod HM3.out (by intro b hb; simp at hb)) rfl rfl rfl (by omega) (by unfold maxLen; omega) ?_; intro a4 c4 w4 hO4 hG4 _
           have HO4 := Hi hO4; have HG4 := Hi hG4; clear hO4 hG4))
        go_roundw
        case rel =>
         refine ⟨[] ++ [t], a4, c4, 0 + 1, at2, rfl, by go_num, by omega, by unfold Hid; rw [List.length_append, hL.out]; rfl, Hi (by rw [sts_append]; exact HO4.out), Hi (H3.out.modE HG4.out.mod (by simp) (by simp)), ?_, ?_, Hi (by rw [HOn.out (by simp) rfl, HMM.out])⟩
         ·intro b hb
          rcases HG4.out.pos with e | ⟨b', e, hb'⟩
          ·rw [e] at hb; exact hB.out b hb
          ·rw [e] at hb; cases hb
           have h1 := hM.out.size
           have h2 := HM3.out.size
           have h3 := (Array.getElem?_eq_some_iff.1 H3.out.heap).1
           refine ⟨by omega, by omega, ?_⟩
           by_cases hl : l = []
           ·exact .inl hl
           ·refine .inr (fun h => ?_)
            have := (H3.out.blt _ h).resolve_left hl
            omega
         ·exact (hM.out.step HM3.out (fun i hi hs => by omega)).step HG4.out.mod (fun i hi hs => by simp at hs)
        case measure => simp [intOf]; omega
       ·clear HFell
        have hgp : g ≠ p := (hB.out g rfl).2.1
        go_wp2_with (first
         |(go_at_call 108; refine HT.out.mono ?_; rintro e w3 ⟨rfl, h3, hM3⟩
           skip
           have hc2 : w3.cell? ⟨p, 2, none⟩ = some (.int .i64 0) := cell_at h3.heap rfl
           have H3 := Hi h3; have HM3 := Hi hM3; clear h3 hM3)
         |(at_builtin; refine wpL_appendN (us := [_]) rfl (.tmp 55) (.tmp 57) 81 rfl ti22r rfl (hO.out.mod HM3.out (by intro b hb; simp at hb; omega)) rfl rfl rfl (by omega) (by unfold maxLen; omega) ?_; intro a4 c4 w4 hO4 hG4 _
           have HO4 := Hi hO4; have HG4 := Hi hG4; clear hO4 hG4))
        go_roundw
        case rel =>
         refine ⟨[] ++ [t], a4, c4, 0 + 1, at2, rfl, by go_num, by omega, by unfold Hid; rw [List.length_append, hL.out]; rfl, Hi (by rw [sts_append]; exact HO4.out), Hi (H3.out.modE HG4.out.mod (by simp; exact hgp) (fun b hb => (hB.out g rfl).2.2.imp id (fun h e => h (by simp at e; subst e; exact hb)))), ?_, ?_, Hi (by rw [HOn.out (by simp) rfl, HMM.out])⟩
         ·intro b hb
          rcases HG4.out.pos with e | ⟨b', e, hb'⟩
          ·rw [e] at hb; exact hB.out b hb
          ·rw [e] at hb; cases hb
           have h1 := hM.out.size
           have h2 := HM3.out.size
           have h3 := (Array.getElem?_eq_some_iff.1 H3.out.heap).1
           refine ⟨by omega, by omega, ?_⟩
           by_cases hl : l = []
           ·exact .inl hl
           ·refine .inr (fun h => ?_)
            have := (H3.out.blt _ h).resolve_left hl
            omega
         ·exact (hM.out.step HM3.out (fun i hi hs => by omega)).step HG4.out.mod (fun i hi hs => by have := (hB.out g rfl).1; simp at hs; omega)
        case measure => simp [intOf]; omega
     ·have hgb : ((e2 : Int) != 0) = true := by simp; omega
      have HG := Hi he2; clear he2 HFell HOn
      go_wp2_with (first
       |(go_at_call 108; refine HT.out.mono ?_; rintro e w3 ⟨rfl, h3, hM3⟩
         have hc2 : w3.cell? ⟨p, 2, none⟩ = some (.int .i64 e2) := cell_at h3.heap rfl
         have H3 := Hi h3; have HM3 := Hi (hM.out.step hM3 (fun i hi hs => by omega)); clear h3 hM3))
      refine wp_region_ord (fun _ => True) [(0, 0), (0, 1), (0, 2), (0, 4), (0, 5), (3, 3), (0, 6)] (by kernel_rfl) (by kernel_rfl) ?_
      go_wp2_with (first
       |(refine ord_pure rfl rfl rfl (fun K hK => ?_); go_big_quiet_op; refine hK _ ?_; clear hK K)
       |(refine ord_drop rfl rfl (fun K hK => ?_))
       |(refine ord_nil ?_))
      go_ret3
      rw [HErr.out HG.out]
      exact ⟨.slice none 0 0, rfl, RdRes.nil HM3.out.drew⟩
    ·obtain rfl : k = n := by omega
     have hc1 : wr.cell? ⟨p, 1, none⟩ = some (.int .i64 at_) := cell_at hR.out.heap rfl
     go_wp2
     refine wp_region_ord (fun _ => True) [(0, 0), (0, 1), (0, 2), (0, 3), (0, 5), (3, 4), (0, 6), (0, 7)] (by kernel_rfl) (by kernel_rfl) ?_
     go_wp2_with (first
      |(refine ord_pure rfl rfl rfl (fun K hK => ?_); go_big_quiet_op; refine hK _ ?_; clear hK K)
      |(refine ord_drop rfl rfl (fun K hK => ?_))
      |(refine ord_nil ?_))
     go_ret3
     have := hE.out
     rw [Nat.sub_self, rdGo] at this
     rw [this]
     exact ⟨.slice a2 k c2, rfl, hM.out.drew, a2, c2, by rw [hL.out], hO.out.rd, fun b hb => (hB.out b hb).1⟩
 ·have hfb2 : ((f0 : Int) != 0) = true := by simp; omega
  rw [if_pos (by simpa using hf0)]
  have HF := Hi hf0; clear hf0
  go_enter Tryz.func110, Tryz.ntmps110
  go_wp2_with (first
   |(go_at_call 109; refine HNum.out.mono ?_; rintro e w2 ⟨rfl, h2, hM2⟩
     have hc2 : w2.cell? ⟨w.heap.size, 2, none⟩ = some (.int .i64 f0) := cell_at h2.heap rfl
     have H2 := Hi h2; have HM2 := Hi (HM1.out.step hM2 (fun i hi hs => by omega)); clear h2 hM2))
  refine wp_region_ord (fun _ => True) [(0, 0), (0, 1), (0, 2), (0, 4), (0, 5), (3, 3), (0, 6)] (by kernel_rfl) (by kernel_rfl) ?_
  go_wp2_with (first
   |(refine ord_pure rfl rfl rfl (fun K hK => ?_); go_big_quiet_op; refine hK _ ?_; clear hK K)
   |(refine ord_drop rfl rfl (fun K hK => ?_))
   |(refine ord_nil ?_))
  go_ret3
  exact ⟨.slice none 0 0, rfl, RdRes.nil HM2.out.drew⟩
end Go.Proofs.YtjoiaejbahdjkaaGreat
