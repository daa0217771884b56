/-
  The document's reading of a packed column: walked.
-/
import Derived.Test.YtjoiaejbahdjkaaGreatColD
namespace Go.Proofs.YtjoiaejbahdjkaaGreat
open Go Go.RowKit Go.Mine
set_option linter.unusedVariables false
set_option maxHeartbeats 4000000
set_option maxRecDepth 100000
def ReadPost (r : Option (List Nat)) (w : World) (e : Ending) (w' : World) : Prop :=
 ∃ x, e = .returned (.tuple #[x, .bool r.isSome]) ∧ Mod (fun _ => False) w w' ∧ ∀ c, r = some c → ∃ a' c', x = .slice a' c.length c' ∧ VOwn 58 w w' a' c' (u32s c)
@[simp] theorem u32s_len (l : List Nat) : (u32s l).length = l.length := by simp [u32s]
theorem u32s_snoc (l : List Nat) (n : Nat) : u32s (l ++ [n]) = u32s l ++ [.int .u32 (n : Nat)] := by simp [u32s]
theorem numUp_succ (l : List UInt8) (w i m : Nat) : numUp l w i (m + 1) = numUp l w i m + bitB l (i * w + m) * 2 ^ m := by
 unfold numUp
 rw [List.range_succ, List.map_append, List.sum_append]
 simp
theorem bit_add (u q e k v : Nat) (hv : v = u + bitN q e * 2 ^ k) (hlt : v < 2 ^ 32) : ((u : Int) + ((q : Int) / 2 ^ e).tmod 2 % 4294967296 * 2 ^ k % 4294967296) % 4294967296 = (v : Int) := by
 have hb := bitN_lt q e
 have e1 : ((q : Int) / 2 ^ e).tmod 2 = ((bitN q e : Nat) : Int) := by
  rw [shr_cast, Int.tmod_eq_emod_of_nonneg (Int.natCast_nonneg _)]
  unfold bitN
  omega
 have e2 : ((bitN q e : Nat) : Int) % 4294967296 = ((bitN q e : Nat) : Int) := by omega
 have e3 : ((bitN q e : Nat) : Int) * 2 ^ k = ((bitN q e * 2 ^ k : Nat) : Int) := by push_cast; rfl
 rw [e1, e2, e3]
 generalize bitN q e * 2 ^ k = P at *
 omega
theorem read4R_any (a : Option Addr) (d rows : Nat) (l : List UInt8) (w : World) (hr : Rd w a (bts l)) (hl : l.length < 2 ^ 40) (hd : l.length ≤ d) (hrows : rows ≤ 65536) :
 Calls Tryz.prog 133 #[.int .i64 4, .slice a l.length d, .int .i64 rows] w (ReadPost (refRead 4 rows l) w) := by
 have HR := Hi hr
 clear hr
 cases l with
 | nil =>
   have HN : Hid (refRead 4 rows [] = none) := Hi rfl
   go_enter Tryz.func133, Tryz.ntmps133
   go_wp2_with fail
   exact bodyPost_ret (v := .tuple #[.slice none 0 0, .bool false]) (by simp [results, Tryz.results133, go_sem]) rfl ⟨_, rfl, Mod.refl _ _, fun c h => by cases h⟩
 | cons b r =>
   obtain ⟨bb, bo, rfl, x0⟩ := byte_cell HR.out (i := 0) (by simp)
   have hb := b.toNat_lt
   have hr0 : refRead 4 rows (b :: r) = if 32 < b.toNat ∨ r.length ≠ (rows * b.toNat + 7) / 8 then none else some (rkL rows (b :: r)) := rfl
   have hrk : rkL rows (b :: r) = if 32 < b.toNat ∨ r.length ≠ (rows * b.toNat + 7) / 8 then [] else (List.range rows).map fun i => numUp r b.toNat i b.toNat := rfl
   rw [List.getElem_cons_zero, Nat.add_zero] at x0
   rw [List.length_cons] at hl hd ⊢
   have HRR : Hid (∀ j (h : j < r.length), w.cell? ⟨bb, bo + (1 + j), none⟩ = some (.int .u8 (r[j].toNat : Nat))) := Hi (fun j h => by
    obtain ⟨b', o', e', h1⟩ := byte_cell HR.out (i := j + 1) (by simp; omega)
    cases e'
    rw [List.getElem_cons_succ] at h1
    rw [Nat.add_comm 1 j]
    exact h1)
   generalize b.toNat = n at *
   by_cases h32 : 32 < n
   ·rw [if_pos (.inl h32)] at hr0
    have H0 := Hi hr0
    clear hr0 hrk
    go_enter Tryz.func133, Tryz.ntmps133
    go_wp2_with fail
    refine bodyPost_ret (v := .tuple #[.slice none 0 0, .bool false]) (by simp [results, Tryz.results133, go_sem]) rfl ?_
    rw [H0.out]
    exact ⟨_, rfl, Mod.refl _ _, fun c h => by cases h⟩
   ·obtain ⟨N, hN⟩ : ∃ N, N = rows * n := ⟨_, rfl⟩
    have hNb : N ≤ 65536 * 32 := by rw [hN]; exact Nat.mul_le_mul hrows (by omega)
    have hNZ : (rows : Int) * (n : Int) = (N : Int) := by rw [hN]; push_cast; rfl
    rw [← hN] at hr0 hrk
    have HN := Hi hN
    clear hN
    have hq0 : ((r.length : Int) + 1 == 0) = false := by simp; omega
    have hq32 : decide ((32 : Int) < (n : Int)) = false := by simp; omega
    by_cases hlen : r.length = (N + 7) / 8
    ·rw [if_neg (by omega)] at hr0 hrk
     have H0 := Hi hr0; have HK := Hi hrk
     have hq1 : ((r.length : Int) != ((N : Int) + 7) / 8) = false := by simp; omega
     have HLEN := Hi hlen
     clear hr0 hrk hlen
     go_enter Tryz.func133, Tryz.ntmps133
     go_wp2_with fail
     go_loopw [8, 10, 11, 12, 13] (fun cv iv _ _ _ wr => ∃ (i : Nat) (oa : Option Addr) (oc : Nat), iv = .int .i64 i ∧ i ≤ rows ∧ cv = .slice oa i oc ∧ Hid (VOwn 58 w wr oa oc (u32s ((List.range i).map fun i => numUp r n i n)))) (fun _ iv _ _ _ _ => rows - (intOf iv).toNat)
     case atStart => exact ⟨0, none, 0, rfl, Nat.zero_le _, rfl, Hi (VOwn.nil _ w)⟩
     case round =>
      obtain ⟨i, oa, oc, rfl, hi, rfl, hO⟩ := hrel
      by_cases hlt : i < rows
      ·have hIN : i * n + n ≤ N := by
        rw [HN.out]
        have := Nat.mul_le_mul_right n (show i + 1 ≤ rows by omega)
        rw [Nat.add_mul] at this
        omega
       have hiW : (i : Int) * (n : Int) = ((i * n : Nat) : Int) := by push_cast; rfl
       have HNS := Hi (fun k => numUp_succ r n i k)
       have HNL := Hi (fun k => numUp_lt r n i k)
       have HN0 : Hid (numUp r n i 0 = 0) := Hi rfl
       have HRS : Hid (u32s ((List.range (i + 1)).map fun i => numUp r n i n) = u32s ((List.range i).map fun i => numUp r n i n) ++ [.int .u32 (numUp r n i n : Nat)]) := Hi (by
        rw [List.range_succ, List.map_append]
        exact u32s_snoc _ _)
       have HOWN : Hid (Mine.Own wr 58 1 oa i oc (u32s ((List.range i).map fun i => numUp r n i n))) := Hi (by
        have h1 := hO.out.own
        rw [u32s_len, List.length_map, List.length_range] at h1
        exact h1)
       generalize i * n = I at *
       generalize hnu : numUp r n i = nu at *
       rename World => wq
       go_wp2_with fail
       go_loopw [11, 12, 13] (fun xv kv _ wr => ∃ k : Nat, kv = .int .i64 k ∧ k ≤ n ∧ xv = .int .u32 (nu k : Nat) ∧ wr = wq) (fun _ kv _ _ => n - (intOf kv).toNat)
       case atStart => exact ⟨0, rfl, Nat.zero_le _, by rw [HN0.out]; rfl, rfl⟩
       case round =>
        obtain ⟨k, rfl, hk, rfl, hww⟩ := hrel
        obtain rfl : wq = wr := hww.symm
        clear hww
        by_cases hlk : k < n
        ·have hmI : (I : Int) + (k : Int) = ((I + k : Nat) : Int) := by omega
         have hmN : I + k < N := by omega
         have hm8 : (I + k) / 8 < r.length := by have := HLEN.out; omega
         have y0 := hO.out.md.cell (HRR.out ((I + k) / 8) hm8) id
         have HBB : Hid (bitB r (I + k) = bitN (r[(I + k) / 8].toNat) ((I + k) % 8)) := Hi (by
          unfold bitB; rw [List.getD_eq_getElem?_getD, List.getElem?_eq_getElem hm8]; rfl)
         have HS := HNS.out k
         have hq8 : r[(I + k) / 8].toNat < 256 := r[(I + k) / 8].toNat_lt
         rw [HBB.out] at HS
         generalize r[(I + k) / 8].toNat = q at *
         generalize I + k = m at *
         have hnl := HNL.out k
         have hnl1 := HNL.out (k + 1)
         have hp32 : 2 ^ (k + 1) ≤ 2 ^ 32 := Nat.pow_le_pow_right (by omega) (by omega)
         have HSS := Hi HS
         clear HS
         go_wp2_with fail
         go_roundw
         case rel => exact ⟨k + 1, by go_num, hlk, by rw [bit_add (nu k) q (m % 8) k (nu (k + 1)) HSS.out (by omega)], trivial⟩
         case measure => simp [intOf]; omega
        ·obtain rfl : k = n := by omega
         go_wp2_with (at_builtin; refine wpL_appendN (us := [.int .u32 (nu k : Nat)]) rfl (.tmp 82) (.tmp 84) 162 rfl tiU32 rfl HOWN.out rfl rfl rfl (by show (i + 1) * 4 ≤ _; omega) (by show i + 1 ≤ _; unfold maxLen; omega) ?_; intro a3 c3 w3 hO3 hG3 _
                      have HO3 := Hi (hO.out.app hG3 hO3 (by simp)); clear hO3 hG3)
         go_roundw
         case rel => exact ⟨i + 1, a3, c3, by go_num, hlt, rfl, by rw [HRS.out]; exact HO3⟩
         case measure => simp [intOf]; omega
      ·obtain rfl : i = rows := by omega
       go_wp2_with fail
       refine bodyPost_ret (v := .tuple #[.slice oa i oc, .bool true]) (by simp [results, Tryz.results133, go_sem]) rfl ?_
       rw [H0.out]
       refine ⟨_, rfl, hO.out.md, fun c h => ?_⟩
       rw [HK.out] at h
       cases h
       exact ⟨oa, oc, by simp, hO.out⟩
    ·rw [if_pos (.inr hlen)] at hr0
     have H0 := Hi hr0
     have hq1 : ((r.length : Int) != ((N : Int) + 7) / 8) = true := by simp; omega
     clear hr0 hrk hlen
     go_enter Tryz.func133, Tryz.ntmps133
     go_wp2_with fail
     refine bodyPost_ret (v := .tuple #[.slice none 0 0, .bool false]) (by simp [results, Tryz.results133, go_sem]) rfl ?_
     rw [H0.out]
     exact ⟨_, rfl, Mod.refl _ _, fun c h => by cases h⟩
end Go.Proofs.YtjoiaejbahdjkaaGreat
/-
  The document's reading of a column of numbers: walked.
-/
namespace Go.Proofs.YtjoiaejbahdjkaaGreat
open Go Go.RowKit Go.Mine
set_option linter.unusedVariables false
set_option maxHeartbeats 8000000
set_option maxRecDepth 100000
theorem refGo_nil (v rows f : Nat) (acc : List Nat) (L : Option Nat) : refGo v rows f acc L [] = if acc.length = rows then some acc else none := by cases f <;> rfl
theorem refGo_on {v : Nat} (hv : v ≠ 3) (rows f : Nat) (acc : List Nat) (L : Option Nat) (x : Nat) (r : List Nat) :
 refGo v rows (f + 1) acc L (x :: r) = if 2 ^ 32 ≤ nextN (if v = 2 then L else none) x ∨ rows - acc.length < 1 then none else refGo v rows f (acc ++ [nextN (if v = 2 then L else none) x]) (some (nextN (if v = 2 then L else none) x)) r := by
 rw [refGo.eq_def]
 simp only
 rw [if_neg hv]
theorem refGo_three (rows f : Nat) (acc : List Nat) (L : Option Nat) (x n : Nat) (r : List Nat) :
 refGo 3 rows (f + 1) acc L (x :: n :: r) = if rows - acc.length < n ∨ 2 ^ 32 ≤ x then none else refGo 3 rows f (acc ++ List.replicate n x) (some x) r := rfl
theorem refGo_one3 (rows f : Nat) (acc : List Nat) (L : Option Nat) (x : Nat) : refGo 3 rows (f + 1) acc L [x] = none := rfl
theorem refRead_nums {v : Nat} (hv : v ≠ 4) (rows : Nat) (l : List UInt8) : refRead v rows l = (nums2 l).bind fun ns => refGo v rows ns.length [] none ns := by
 unfold refRead
 rw [if_neg hv]
 rfl
theorem u64_cell {w : World} {a : Option Addr} {c : List Nat} (h : Rd w a (u64s c)) {i : Nat} (hi : i < c.length) : ∃ b o, a = some ⟨b, o, none⟩ ∧ w.cell? ⟨b, o + i, none⟩ = some (.int .u64 (c[i] : Nat)) := by
 obtain ⟨b, o, e, hc⟩ := h i (.int .u64 (c[i] : Nat)) (by unfold u64s; rw [List.getElem?_map, List.getElem?_eq_getElem hi]; rfl)
 exact ⟨b, o, e, hc⟩
theorem snoc_repl (acc : List Nat) (k x : Nat) : acc ++ List.replicate (k + 1) x = (acc ++ List.replicate k x) ++ [x] := by rw [List.replicate_succ', List.append_assoc]
theorem read1R_any (a : Option Addr) (d rows : Nat) (l : List UInt8) (w : World) (hr : Rd w a (bts l)) (hl : l.length < 2 ^ 40) (hd : l.length ≤ d) (hrows : rows ≤ 65536) :
 Calls Tryz.prog 133 #[.int .i64 1, .slice a l.length d, .int .i64 rows] w (ReadPost (refRead 1 rows l) w) := by
 have HNUM := Hi (numsR_any a l d w hr hl hd)
 have HRR := Hi (refRead_nums (v := 1) (by omega) rows l)
 clear hr
 go_enter Tryz.func133, Tryz.ntmps133
 go_wp2_with fail
 refine HNUM.out.mono ?_
 rintro e w1 (⟨hn, rfl, hm⟩ | ⟨ns, na, nc, hn, hlt, hnl, rfl, hO⟩)
 ·have H0 : Hid (refRead 1 rows l = none) := Hi (by rw [HRR.out, hn]; rfl)
  clear hn
  go_wp2_with fail
  refine bodyPost_ret (v := .tuple #[.slice none 0 0, .bool false]) (by simp [results, Tryz.results133, go_sem]) rfl ?_
  rw [H0.out]
  exact ⟨_, rfl, hm, fun c h => by cases h⟩
 ·have H0 : Hid (refRead 1 rows l = refGo 1 rows ns.length [] none ns) := Hi (by rw [HRR.out, hn]; rfl)
  have HNS := Hi hO; have HNL := Hi hlt
  have hnsl : ns.length < 2 ^ 40 := by omega
  clear hn hlt hO HNUM HRR hnl
  go_wp2_with fail
  go_loopw [8, 16, 17, 18, 19, 20] (fun cv lv iv _ _ _ wr => ∃ (i f : Nat) (acc : List Nat) (L : Option Nat) (la : Int) (oa : Option Addr) (oc : Nat), iv = .int .i64 i ∧ i ≤ ns.length ∧ lv = .int .i64 la ∧ cv = .slice oa acc.length oc ∧ acc.length ≤ rows ∧ ns.length - i ≤ f ∧ Hid (refRead 1 rows l = refGo 1 rows f acc L (ns.drop i)) ∧ Hid (VOwn 58 w1 wr oa oc (u32s acc))) (fun _ _ iv _ _ _ _ => ns.length - (intOf iv).toNat)
  case atStart => exact ⟨0, ns.length, [], none, 0, none, 0, rfl, Nat.zero_le _, rfl, rfl, Nat.zero_le _, by omega, H0, Hi (VOwn.nil _ w1)⟩
  case round =>
   obtain ⟨i, f, acc, L, la, oa, oc, rfl, hi, rfl, rfl, hal, hf, hG, hO⟩ := hrel
   by_cases hlt : i < ns.length
   ·obtain ⟨b, o, rfl, x0⟩ := u64_cell (HNS.out.own.rd.mod hO.out.md (fun _ _ => id)) hlt
    obtain ⟨f', rfl⟩ : ∃ f', f = f' + 1 := ⟨f - 1, by omega⟩
    have hx64 := HNL.out _ (List.getElem_mem hlt)
    have HST : Hid (refRead 1 rows l = if 2 ^ 32 ≤ ns[i] ∨ rows - acc.length < 1 then none else refGo 1 rows f' (acc ++ [ns[i]]) (some ns[i]) (ns.drop (i + 1))) := Hi (by
     rw [hG.out, List.drop_eq_getElem_cons hlt, refGo_on (by omega)]; rfl)
    clear hG
    generalize ns[i] = x at *
    by_cases hbad : 2 ^ 32 ≤ x ∨ rows - acc.length < 1
    ·have H1 : Hid (refRead 1 rows l = none) := Hi (by rw [HST.out, if_pos hbad])
     clear HST
     have HBAD := Hi hbad
     clear hbad
     by_cases h32 : 2 ^ 32 ≤ x
     ·go_wp2_with fail
      refine bodyPost_ret (v := .tuple #[.slice none 0 0, .bool false]) (by simp [results, Tryz.results133, go_sem]) rfl ?_
      rw [H1.out]
      exact ⟨_, rfl, HNS.out.md.trans hO.out.md, fun c h => by cases h⟩
     ·have hfull : rows ≤ acc.length := by have := HBAD.out; omega
      go_wp2_with fail
      refine bodyPost_ret (v := .tuple #[.slice none 0 0, .bool false]) (by simp [results, Tryz.results133, go_sem]) rfl ?_
      rw [H1.out]
      exact ⟨_, rfl, HNS.out.md.trans hO.out.md, fun c h => by cases h⟩
    ·have H1 : Hid (refRead 1 rows l = refGo 1 rows f' (acc ++ [x]) (some x) (ns.drop (i + 1))) := Hi (by rw [HST.out, if_neg hbad])
     clear HST
     have h32 : x < 2 ^ 32 := by omega
     have hroom : acc.length + 1 ≤ rows := by omega
     clear hbad
     go_wp2_with fail
     go_loopw [8, 20] (fun cv kv wr => ∃ (k : Nat) (oa' : Option Addr) (oc' : Nat), kv = .int .i64 k ∧ k ≤ 1 ∧ cv = .slice oa' (acc.length + k) oc' ∧ Hid (VOwn 58 w1 wr oa' oc' (u32s (acc ++ List.replicate k x)))) (fun _ kv _ => 1 - (intOf kv).toNat)
     case atStart => exact ⟨0, oa, oc, rfl, Nat.zero_le _, rfl, by simpa using hO⟩
     case round =>
      obtain ⟨k, oa', oc', rfl, hk, rfl, hO'⟩ := hrel
      by_cases hlk : k < 1
      ·have HOWN : Hid (Mine.Own wr 58 1 oa' (acc.length + k) oc' (u32s (acc ++ List.replicate k x))) := Hi (by
        have h1 := hO'.out.own
        rw [u32s_len, List.length_append, List.length_replicate] at h1
        exact h1)
       have hbig : acc.length + k + 1 ≤ 65536 := (by omega)
       go_wp2_with (at_builtin; refine wpL_appendN (us := [.int .u32 (x : Nat)]) rfl (.tmp 161) (.tmp 164) 162 rfl tiU32 rfl HOWN.out rfl rfl rfl (by show (acc.length + k + 1) * 4 ≤ _; omega) (by show acc.length + k + 1 ≤ _; unfold maxLen; omega) ?_; intro a3 c3 w3 hO3 hG3 _
                    have HO3 : Hid (VOwn 58 w1 w3 a3 c3 (u32s (acc ++ List.replicate (k + 1) x))) := Hi (by
                     rw [snoc_repl, u32s_snoc]
                     exact hO'.out.app hG3 hO3 (by simp)); clear hO3 hG3)
       go_roundw
       case rel => exact ⟨k + 1, a3, c3, by go_num, hlk, rfl, HO3⟩
       case measure => simp [intOf]; omega
      ·have HK1 := Hi (show k = 1 by omega)
       go_wp2_with fail
       go_roundw
       case rel => exact ⟨i + 1, f', acc ++ List.replicate k x, some x, (x : Nat), oa', oc', by go_num, hlt, rfl, by simp, by simp; have := HK1.out; omega, by omega, Hi (by rw [HK1.out]; exact H1.out), hO'⟩
       case measure => simp [intOf]; omega
   ·skip
    obtain rfl : i = ns.length := by omega
    have H1 : Hid (refRead 1 rows l = if acc.length = rows then some acc else none) := Hi (by rw [hG.out, List.drop_length, refGo_nil])
    by_cases hfull : acc.length = rows
    ·rw [if_pos hfull] at H1
     have hbe : ((acc.length : Int) == (rows : Int)) = true := by simp; omega
     have HF := Hi hfull
     clear hfull hG hf
     go_wp2_with fail
     refine bodyPost_ret (v := .tuple #[.slice oa acc.length oc, .bool true]) (by simp [results, Tryz.results133, go_sem]) rfl ?_
     rw [H1.out]
     refine ⟨_, rfl, HNS.out.md.trans hO.out.md, fun c h => ?_⟩
     cases h
     exact ⟨oa, oc, rfl, hO.out.own, fun b hb => Nat.le_trans HNS.out.md.size (hO.out.fr b hb), HNS.out.md.trans hO.out.md⟩
    ·rw [if_neg hfull] at H1
     have hbe : ((acc.length : Int) == (rows : Int)) = false := by simp; omega
     clear hfull hG hf
     go_wp2_with fail
     refine bodyPost_ret (v := .tuple #[.slice oa acc.length oc, .bool false]) (by simp [results, Tryz.results133, go_sem]) rfl ?_
     rw [H1.out]
     exact ⟨_, rfl, HNS.out.md.trans hO.out.md, fun c h => by cases h⟩
end Go.Proofs.YtjoiaejbahdjkaaGreat
/-
  The document's reading of a column of steps, of runs: walked.
-/
namespace Go.Proofs.YtjoiaejbahdjkaaGreat
open Go Go.RowKit Go.Mine
set_option linter.unusedVariables false
set_option maxHeartbeats 8000000
set_option maxRecDepth 100000
theorem next_cast {q n : Nat} (hq : q < 2 ^ 32) (hn : n < 2 ^ 64) : IntKind.u64.wrap (wrap64 ((q : Int) + backN n)) = ((nextN (some q) n : Nat) : Int) := by
 rw [IntKind.wrap_u64]
 unfold wrap64 nextN
 simp only
 omega
theorem read2R_any (a : Option Addr) (d rows : Nat) (l : List UInt8) (w : World) (hr : Rd w a (bts l)) (hl : l.length < 2 ^ 40) (hd : l.length ≤ d) (hrows : rows ≤ 65536) :
 Calls Tryz.prog 133 #[.int .i64 2, .slice a l.length d, .int .i64 rows] w (ReadPost (refRead 2 rows l) w) := by
 have HNUM := Hi (numsR_any a l d w hr hl hd)
 have HRR := Hi (refRead_nums (v := 2) (by omega) rows l)
 clear hr
 go_enter Tryz.func133, Tryz.ntmps133
 go_wp2_with fail
 refine HNUM.out.mono ?_
 rintro e w1 (⟨hn, rfl, hm⟩ | ⟨ns, na, nc, hn, hlt, hnl, rfl, hO⟩)
 ·have H0 : Hid (refRead 2 rows l = none) := Hi (by rw [HRR.out, hn]; rfl)
  clear hn
  go_wp2_with fail
  refine bodyPost_ret (v := .tuple #[.slice none 0 0, .bool false]) (by simp [results, Tryz.results133, go_sem]) rfl ?_
  rw [H0.out]
  exact ⟨_, rfl, hm, fun c h => by cases h⟩
 ·have H0 : Hid (refRead 2 rows l = refGo 2 rows ns.length [] none ns) := Hi (by rw [HRR.out, hn]; rfl)
  have HNS := Hi hO; have HNL := Hi hlt
  have hnsl : ns.length < 2 ^ 40 := by omega
  clear hn hlt hO HNUM HRR hnl
  go_wp2_with fail
  go_loopw [8, 16, 17, 18, 19, 20] (fun cv lv iv _ _ _ wr => ∃ (i f : Nat) (acc : List Nat) (L : Option Nat) (la : Int) (oa : Option Addr) (oc : Nat), iv = .int .i64 i ∧ i ≤ ns.length ∧ lv = .int .i64 la ∧ cv = .slice oa acc.length oc ∧ acc.length ≤ rows ∧ ns.length - i ≤ f ∧ Hid ((i = 0 ∧ L = none) ∨ ∃ q : Nat, L = some q ∧ 0 < i ∧ la = q ∧ q < 2 ^ 32) ∧ Hid (refRead 2 rows l = refGo 2 rows f acc L (ns.drop i)) ∧ Hid (VOwn 58 w1 wr oa oc (u32s acc))) (fun _ _ iv _ _ _ _ => ns.length - (intOf iv).toNat)
  case atStart => exact ⟨0, ns.length, [], none, 0, none, 0, rfl, Nat.zero_le _, rfl, rfl, Nat.zero_le _, by omega, Hi (.inl ⟨rfl, rfl⟩), H0, Hi (VOwn.nil _ w1)⟩
  case round =>
   obtain ⟨i, f, acc, L, la, oa, oc, rfl, hi, rfl, rfl, hal, hf, hL, hG, hO⟩ := hrel
   by_cases hlt : i < ns.length
   ·obtain ⟨b, o, rfl, x0⟩ := u64_cell (HNS.out.own.rd.mod hO.out.md (fun _ _ => id)) hlt
    obtain ⟨f', rfl⟩ : ∃ f', f = f' + 1 := ⟨f - 1, by omega⟩
    have hx64 := HNL.out _ (List.getElem_mem hlt)
    have HST0 : Hid (refRead 2 rows l = if 2 ^ 32 ≤ nextN L ns[i] ∨ rows - acc.length < 1 then none else refGo 2 rows f' (acc ++ [nextN L ns[i]]) (some (nextN L ns[i])) (ns.drop (i + 1))) := Hi (by
     rw [hG.out, List.drop_eq_getElem_cons hlt, refGo_on (by omega)]; rfl)
    clear hG
    rcases hL.out with ⟨hi0, rfl⟩ | ⟨q, rfl, hi0, rfl, hq⟩
    ·have hkz : decide (0 < i) = false := by simp; omega
     have HST : Hid (refRead 2 rows l = if 2 ^ 32 ≤ ns[i] ∨ rows - acc.length < 1 then none else refGo 2 rows f' (acc ++ [ns[i]]) (some ns[i]) (ns.drop (i + 1))) := HST0
     clear HST0 hL hi0
     generalize ns[i] = x at *
     by_cases hbad : 2 ^ 32 ≤ x ∨ rows - acc.length < 1
     ·have H1 : Hid (refRead 2 rows l = none) := Hi (by rw [HST.out, if_pos hbad])
      clear HST
      have HBAD := Hi hbad
      clear hbad
      by_cases h32 : 2 ^ 32 ≤ x
      ·go_wp2_with fail
       refine bodyPost_ret (v := .tuple #[.slice none 0 0, .bool false]) (by simp [results, Tryz.results133, go_sem]) rfl ?_
       rw [H1.out]
       exact ⟨_, rfl, HNS.out.md.trans hO.out.md, fun c h => by cases h⟩
      ·have hfull : rows ≤ acc.length := by have := HBAD.out; omega
       go_wp2_with fail
       refine bodyPost_ret (v := .tuple #[.slice none 0 0, .bool false]) (by simp [results, Tryz.results133, go_sem]) rfl ?_
       rw [H1.out]
       exact ⟨_, rfl, HNS.out.md.trans hO.out.md, fun c h => by cases h⟩
     ·have H1 : Hid (refRead 2 rows l = refGo 2 rows f' (acc ++ [x]) (some x) (ns.drop (i + 1))) := Hi (by rw [HST.out, if_neg hbad])
      clear HST
      have h32 : x < 2 ^ 32 := by omega
      have hroom : acc.length + 1 ≤ rows := by omega
      clear hbad
      go_wp2_with fail
      go_loopw [8, 20] (fun cv kv wr => ∃ (k : Nat) (oa' : Option Addr) (oc' : Nat), kv = .int .i64 k ∧ k ≤ 1 ∧ cv = .slice oa' (acc.length + k) oc' ∧ Hid (VOwn 58 w1 wr oa' oc' (u32s (acc ++ List.replicate k x)))) (fun _ kv _ => 1 - (intOf kv).toNat)
      case atStart => exact ⟨0, oa, oc, rfl, Nat.zero_le _, rfl, by simpa using hO⟩
      case round =>
       obtain ⟨k, oa', oc', rfl, hk, rfl, hO'⟩ := hrel
       by_cases hlk : k < 1
       ·have HOWN : Hid (Mine.Own wr 58 1 oa' (acc.length + k) oc' (u32s (acc ++ List.replicate k x))) := Hi (by
         have h1 := hO'.out.own
         rw [u32s_len, List.length_append, List.length_replicate] at h1
         exact h1)
        have hbig : acc.length + k + 1 ≤ 65536 := (by omega)
        go_wp2_with (at_builtin; refine wpL_appendN (us := [.int .u32 (x : Nat)]) rfl (.tmp 161) (.tmp 164) 162 rfl tiU32 rfl HOWN.out rfl rfl rfl (by show (acc.length + k + 1) * 4 ≤ _; omega) (by show acc.length + k + 1 ≤ _; unfold maxLen; omega) ?_; intro a3 c3 w3 hO3 hG3 _
                     have HO3 : Hid (VOwn 58 w1 w3 a3 c3 (u32s (acc ++ List.replicate (k + 1) x))) := Hi (by
                      rw [snoc_repl, u32s_snoc]
                      exact hO'.out.app hG3 hO3 (by simp)); clear hO3 hG3)
        go_roundw
        case rel => exact ⟨k + 1, a3, c3, by go_num, hlk, rfl, HO3⟩
        case measure => simp [intOf]; omega
       ·have HK1 := Hi (show k = 1 by omega)
        go_wp2_with fail
        go_roundw
        case rel => exact ⟨i + 1, f', acc ++ List.replicate k x, some x, (x : Nat), oa', oc', by go_num, hlt, rfl, by simp, by simp; have := HK1.out; omega, by omega, Hi (.inr ⟨x, rfl, by omega, rfl, h32⟩), Hi (by rw [HK1.out]; exact H1.out), hO'⟩
        case measure => simp [intOf]; omega
    ·have hnc := next_cast hq hx64
     have HBK := Hi (backR_any ns[i] hx64 wr)
     have hnx64 : nextN (some q) ns[i] < 2 ^ 64 := by unfold nextN; simp only; omega
     clear hL
     have HST := HST0
     clear HST0
     generalize nextN (some q) ns[i] = x at *
     generalize hbk : backN ns[i] = bk at *
     generalize ns[i] = n0 at *
     go_wp2_with fail
     refine HBK.out.mono ?_
     rintro e w2 ⟨rfl, hw2⟩
     obtain rfl : wr = w2 := hw2
     clear HBK
     by_cases hbad : 2 ^ 32 ≤ x ∨ rows - acc.length < 1
     ·have H1 : Hid (refRead 2 rows l = none) := Hi (by rw [HST.out, if_pos hbad])
      clear HST
      have HBAD := Hi hbad
      clear hbad
      by_cases h32 : 2 ^ 32 ≤ x
      ·go_wp2_with fail
       refine bodyPost_ret (v := .tuple #[.slice none 0 0, .bool false]) (by simp [results, Tryz.results133, go_sem]) rfl ?_
       rw [H1.out]
       exact ⟨_, rfl, HNS.out.md.trans hO.out.md, fun c h => by cases h⟩
      ·have hfull : rows ≤ acc.length := by have := HBAD.out; omega
       go_wp2_with fail
       refine bodyPost_ret (v := .tuple #[.slice none 0 0, .bool false]) (by simp [results, Tryz.results133, go_sem]) rfl ?_
       rw [H1.out]
       exact ⟨_, rfl, HNS.out.md.trans hO.out.md, fun c h => by cases h⟩
     ·have H1 : Hid (refRead 2 rows l = refGo 2 rows f' (acc ++ [x]) (some x) (ns.drop (i + 1))) := Hi (by rw [HST.out, if_neg hbad])
      clear HST
      have h32 : x < 2 ^ 32 := by omega
      have hroom : acc.length + 1 ≤ rows := by omega
      clear hbad
      go_wp2_with fail
      go_loopw [8, 20] (fun cv kv wr => ∃ (k : Nat) (oa' : Option Addr) (oc' : Nat), kv = .int .i64 k ∧ k ≤ 1 ∧ cv = .slice oa' (acc.length + k) oc' ∧ Hid (VOwn 58 w1 wr oa' oc' (u32s (acc ++ List.replicate k x)))) (fun _ kv _ => 1 - (intOf kv).toNat)
      case atStart => exact ⟨0, oa, oc, rfl, Nat.zero_le _, rfl, by simpa using hO⟩
      case round =>
       obtain ⟨k, oa', oc', rfl, hk, rfl, hO'⟩ := hrel
       by_cases hlk : k < 1
       ·have HOWN : Hid (Mine.Own wr 58 1 oa' (acc.length + k) oc' (u32s (acc ++ List.replicate k x))) := Hi (by
         have h1 := hO'.out.own
         rw [u32s_len, List.length_append, List.length_replicate] at h1
         exact h1)
        have hbig : acc.length + k + 1 ≤ 65536 := (by omega)
        go_wp2_with (at_builtin; refine wpL_appendN (us := [.int .u32 (x : Nat)]) rfl (.tmp 161) (.tmp 164) 162 rfl tiU32 rfl HOWN.out rfl rfl rfl (by show (acc.length + k + 1) * 4 ≤ _; omega) (by show acc.length + k + 1 ≤ _; unfold maxLen; omega) ?_; intro a3 c3 w3 hO3 hG3 _
                     have HO3 : Hid (VOwn 58 w1 w3 a3 c3 (u32s (acc ++ List.replicate (k + 1) x))) := Hi (by
                      rw [snoc_repl, u32s_snoc]
                      exact hO'.out.app hG3 hO3 (by simp)); clear hO3 hG3)
        go_roundw
        case rel => exact ⟨k + 1, a3, c3, by go_num, hlk, rfl, HO3⟩
        case measure => simp [intOf]; omega
       ·have HK1 := Hi (show k = 1 by omega)
        go_wp2_with fail
        go_roundw
        case rel => exact ⟨i + 1, f', acc ++ List.replicate k x, some x, (x : Nat), oa', oc', by go_num, hlt, rfl, by simp, by simp; have := HK1.out; omega, by omega, Hi (.inr ⟨x, rfl, by omega, rfl, h32⟩), Hi (by rw [HK1.out]; exact H1.out), hO'⟩
        case measure => simp [intOf]; omega
   ·skip
    obtain rfl : i = ns.length := by omega
    have H1 : Hid (refRead 2 rows l = if acc.length = rows then some acc else none) := Hi (by rw [hG.out, List.drop_length, refGo_nil])
    by_cases hfull : acc.length = rows
    ·rw [if_pos hfull] at H1
     have hbe : ((acc.length : Int) == (rows : Int)) = true := by simp; omega
     have HF := Hi hfull
     clear hfull hG hf
     go_wp2_with fail
     refine bodyPost_ret (v := .tuple #[.slice oa acc.length oc, .bool true]) (by simp [results, Tryz.results133, go_sem]) rfl ?_
     rw [H1.out]
     refine ⟨_, rfl, HNS.out.md.trans hO.out.md, fun c h => ?_⟩
     cases h
     exact ⟨oa, oc, rfl, hO.out.own, fun b hb => Nat.le_trans HNS.out.md.size (hO.out.fr b hb), HNS.out.md.trans hO.out.md⟩
    ·rw [if_neg hfull] at H1
     have hbe : ((acc.length : Int) == (rows : Int)) = false := by simp; omega
     clear hfull hG hf
     go_wp2_with fail
     refine bodyPost_ret (v := .tuple #[.slice oa acc.length oc, .bool false]) (by simp [results, Tryz.results133, go_sem]) rfl ?_
     rw [H1.out]
     exact ⟨_, rfl, HNS.out.md.trans hO.out.md, fun c h => by cases h⟩
end Go.Proofs.YtjoiaejbahdjkaaGreat
