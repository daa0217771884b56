/-
  The program's reading of a column that was packed: walked.
-/
import Derived.Test.YtelfakglaghfoaaGreatColZ
namespace Go.Proofs.YtelfakglaghfoaaGreat
open Go Go.RowKit Go.Mine
set_option linter.unusedVariables false
set_option maxHeartbeats 4000000
set_option maxRecDepth 100000

/-- the numbers ahead of i whole, the one at i with k of its bits -/
def pk (r : List UInt8) (n rows i k : Nat) : List Nat := (List.range rows).map fun j => numUp r n j (if j < i then n else if j = i then k else 0)
theorem pk_len (r : List UInt8) (n rows i k : Nat) : (pk r n rows i k).length = rows := by simp [pk]
theorem numUp_zero (r : List UInt8) (n j : Nat) : numUp r n j 0 = 0 := rfl
theorem pk_next (r : List UInt8) (n rows i : Nat) : pk r n rows i n = pk r n rows (i + 1) 0 := by
  unfold pk
  refine List.map_congr_left fun j hj => ?_
  by_cases h1 : j < i
  · rw [if_pos h1, if_pos (by omega)]
  · by_cases h2 : j = i
    · rw [if_neg h1, if_pos h2, if_pos (by omega)]
    · rw [if_neg h1, if_neg h2, if_neg (by omega)]
      by_cases h3 : j = i + 1
      · rw [if_pos h3]
      · rw [if_neg h3]
theorem pk_zero (r : List UInt8) (n rows : Nat) : pk r n rows 0 0 = List.replicate rows 0 := by
  unfold pk
  rw [List.eq_replicate_iff]
  refine ⟨by simp, fun x hx => ?_⟩
  obtain ⟨j, _, rfl⟩ := List.mem_map.1 hx
  rw [if_neg (by omega)]
  by_cases h : j = 0
  · rw [if_pos h]; rfl
  · rw [if_neg h]; rfl
theorem pk_all (r : List UInt8) (n rows : Nat) : pk r n rows rows 0 = (List.range rows).map fun j => numUp r n j n := by
  unfold pk
  refine List.map_congr_left fun j hj => ?_
  rw [if_pos (List.mem_range.1 hj)]
theorem pk_get (r : List UInt8) (n : Nat) {rows i : Nat} (k : Nat) (h : i < rows) : (pk r n rows i k)[i]? = some (numUp r n i k) := by
  unfold pk
  rw [List.getElem?_map, List.getElem?_range h]
  simp
theorem pk_set (r : List UInt8) (n : Nat) {rows i : Nat} (k : Nat) (h : i < rows) : pk r n rows i (k + 1) = (pk r n rows i k).set i (numUp r n i (k + 1)) := by
  refine List.ext_getElem? fun j => ?_
  by_cases hj : j < rows
  · rw [List.getElem?_set]
    by_cases he : i = j
    · subst he
      rw [if_pos rfl, if_pos (by rw [pk_len]; exact h), pk_get r n (k + 1) h]
    · rw [if_neg he]
      unfold pk
      rw [List.getElem?_map, List.getElem?_map, List.getElem?_range hj]
      simp only [Option.map_some]
      rw [if_neg (show ¬ j = i from fun e => he e.symm), if_neg (show ¬ j = i from fun e => he e.symm)]
  · rw [List.getElem?_eq_none (by rw [pk_len]; omega), List.getElem?_eq_none (by rw [List.length_set, pk_len]; omega)]
theorem and1_8 (m : Nat) (h : m < 256) : bits .and .u8 (m : Int) 1 = ((m % 2 : Nat) : Int) := by
  have := u8_and_nat m 1 h (by decide)
  rw [show ((1 : Nat) : Int) = 1 from rfl] at this
  rw [this, Nat.and_one_is_mod]
theorem or_room32 (q b e v : Nat) (hq : q < 2 ^ e) (hv : v = q + b * 2 ^ e) (h32 : v < 4294967296) : bits .or .u32 (q : Int) ((b : Int) * 2 ^ e % 4294967296) = (v : Int) := by
  subst hv
  have e1 : (b : Int) * 2 ^ e % 4294967296 = ((b * 2 ^ e : Nat) : Int) := by
    have : (b : Int) * 2 ^ e = ((b * 2 ^ e : Nat) : Int) := by push_cast; rfl
    rw [this]; omega
  rw [e1, u32_or_nat q (b * 2 ^ e) (by omega) (by omega)]
  have := Nat.two_pow_add_eq_or_of_lt hq b
  rw [Nat.or_comm, Nat.mul_comm b, ← this, Nat.add_comm]
theorem readP4_any (a : Option Addr) (d rows : Nat) (l : List UInt8) (w : World) (hr : Rd w a (bts l)) (hl : l.length < 2 ^ 40) (hrows : rows ≤ 65536) :
    Calls Tryz.prog 102 #[.slice a l.length d, .int .i64 rows] w (RPost (rkL rows l) w) := by
  have HR := Lib.hid hr
  clear hr
  cases l with
  | nil =>
    have HN : Hid (rkL rows [] = []) := Lib.hid rfl
    go_enter Tryz.func102, Tryz.ntmps102
    go_wp2_with fail
    go_ret
    exact ⟨none, 0, rfl, VOwn.nil _ w⟩
  | cons b r =>
    obtain ⟨bb, bo, rfl, x0⟩ := byte_cell HR.out (i := 0) (by simp)
    have hb := b.toNat_lt
    have hrk : rkL rows (b :: r) = if 32 < b.toNat ∨ r.length ≠ (rows * b.toNat + 7) / 8 then [] else (List.range rows).map fun i => numUp r b.toNat i b.toNat := rfl
    rw [List.getElem_cons_zero, Nat.add_zero] at x0
    rw [List.length_cons] at hl ⊢
    have HRR : Hid (∀ j (h : j < r.length), w.cell? ⟨bb, bo + (1 + j), none⟩ = some (.int .u8 (r[j].toNat : Nat))) := Lib.hid (fun j h => by
      obtain ⟨b', o', e', h1⟩ := byte_cell HR.out (i := j + 1) (by simp; omega)
      cases e'
      rw [List.getElem_cons_succ] at h1
      rw [Nat.add_comm 1 j]
      exact h1)
    generalize b.toNat = n at *
    have hq0 : ((r.length : Int) + 1 == 0) = false := by simp; omega
    by_cases h32 : 32 < n
    · rw [if_pos (.inl h32)] at hrk
      have HK := Lib.hid hrk
      have hq32 : decide ((32 : Int) < (n : Int)) = true := by simp; omega
      clear hrk
      go_enter Tryz.func102, Tryz.ntmps102
      go_wp2_with fail
      go_ret
      rw [HK.out]
      exact ⟨none, 0, rfl, VOwn.nil _ w⟩
    · obtain ⟨N, hN⟩ : ∃ N, N = rows * n := ⟨_, rfl⟩
      have hNb : N ≤ 65536 * 32 := by rw [hN]; exact Nat.mul_le_mul hrows (by omega)
      have hNZ : (rows : Int) * (n : Int) = (N : Int) := by rw [hN]; push_cast; rfl
      rw [← hN] at hrk
      have HN := Lib.hid hN
      clear hN
      have hq32 : decide ((32 : Int) < (n : Int)) = false := by simp; omega
      by_cases hlen : r.length = (N + 7) / 8
      · rw [if_neg (by omega)] at hrk
        have HK := Lib.hid hrk
        have hq1 : ((r.length : Int) + 1 != 1 + ((N : Int) + 7) / 8) = false := by simp; omega
        have HLEN := Lib.hid hlen
        have hmk := mk32 rows (by omega) w
        clear hrk hlen
        go_enter Tryz.func102, Tryz.ntmps102
        go_wp2_with fail
        have HO0 : Hid (Mine.Own (w.alloc (.cells (Array.replicate rows (.int .u32 0)) 45)) 45 1 (some ⟨w.heap.size, 0, none⟩) rows rows (u32s (pk r n rows 0 0))) := Lib.hid (by
          have h1 := Mine.Own.made w 45 1 (Array.replicate rows (.int .u32 0)) rows rows (Nat.le_refl _) (by unfold maxLen; omega) (by simp)
          have e : u32s (pk r n rows 0 0) = (Array.replicate rows (Value.int .u32 0)).toList.take (rows * 1) := by
            rw [pk_zero]; simp [u32s]
          rw [e]; exact h1)
        have HM0 : Hid (Mod (fun _ => False) w (w.alloc (.cells (Array.replicate rows (.int .u32 0)) 45))) := Lib.hid ((Mod.refl _ w).alloc _)
        obtain ⟨B, hB⟩ : ∃ B, B = w.heap.size := ⟨_, rfl⟩
        rw [← hB] at HO0 ⊢
        have HB := Lib.hid hB
        clear hB hmk
        generalize w.alloc (.cells (Array.replicate rows (.int .u32 0)) 45) = w1 at *
        go_loopw [7, 8, 9, 41, 45] (fun _ _ _ iv _ wr => ∃ i : Nat, iv = .int .i64 i ∧ i ≤ rows ∧ Hid (Mine.Own wr 45 1 (some ⟨B, 0, none⟩) rows rows (u32s (pk r n rows i 0))) ∧ Hid (Mod (fun _ => False) w wr)) (fun _ _ _ iv _ _ => rows - (intOf iv).toNat)
        case atStart => exact ⟨0, rfl, Nat.zero_le _, HO0, HM0⟩
        case round =>
          clear HO0 HM0
          obtain ⟨i, rfl, hi, hO, hM⟩ := hrel
          by_cases hlt : i < rows
          · have hIN : i * n + n ≤ N := by
              rw [HN.out]
              have := Nat.mul_le_mul_right n (show i + 1 ≤ rows by omega)
              rw [Nat.add_mul] at this
              omega
            have hiW : (i : Int) * (n : Int) = ((i * n : Nat) : Int) := by push_cast; rfl
            have HNS := Lib.hid (fun k => numUp_succ r n i k)
            have HNL := Lib.hid (fun k => numUp_lt r n i k)
            have HGET := Lib.hid (fun k => pk_get r n (rows := rows) (i := i) k hlt)
            have HSET := Lib.hid (fun k => pk_set r n (rows := rows) (i := i) k hlt)
            have HNX := Lib.hid (pk_next r n rows i)
            generalize i * n = I at *
            generalize hnu : numUp r n i = nu at *
            rename World => wq
            go_wp2_with fail
            go_loopw [8, 9, 45] (fun _ _ kv wr => ∃ k : Nat, kv = .int .i64 k ∧ k ≤ n ∧ Hid (Mine.Own wr 45 1 (some ⟨B, 0, none⟩) rows rows (u32s (pk r n rows i k))) ∧ Hid (Mod (fun _ => False) w wr)) (fun _ _ kv _ => n - (intOf kv).toNat)
            case atStart => exact ⟨0, rfl, Nat.zero_le _, hO, hM⟩
            case round =>
              obtain ⟨k, rfl, hk, hO3, hM3⟩ := hrel
              by_cases hlk : k < n
              · have hmI : (I : Int) + (k : Int) = ((I + k : Nat) : Int) := by omega
                have hmN : I + k < N := by omega
                have hm8 : (I + k) / 8 < r.length := by have := HLEN.out; omega
                have y0 := hM3.out.cell (HRR.out ((I + k) / 8) hm8) id
                have HBB : Hid (bitB r (I + k) = bitN (r[(I + k) / 8].toNat) ((I + k) % 8)) := Lib.hid (by
                  unfold bitB; rw [List.getD_eq_getElem?_getD, List.getElem?_eq_getElem hm8]; rfl)
                have HS := HNS.out k
                have hq8 : r[(I + k) / 8].toNat < 256 := r[(I + k) / 8].toNat_lt
                rw [HBB.out] at HS
                have z0 : wr.cell? ⟨B, i, none⟩ = some (.int .u32 (nu k : Nat)) := by
                  obtain ⟨b', o', e', h1⟩ := hO3.out.rd i (.int .u32 (nu k : Nat)) (by
                    unfold u32s
                    rw [List.getElem?_map, HGET.out k]
                    rfl)
                  cases e'
                  simpa using h1
                have f0 : wr.frozen? ⟨B, i, none⟩ = false := hO3.out.frozen rfl
                generalize r[(I + k) / 8].toNat = q at *
                generalize I + k = m at *
                have hnl := HNL.out k
                have hp32 : 2 ^ (k + 1) ≤ 2 ^ 32 := Nat.pow_le_pow_right (by omega) (by omega)
                have hv32 : nu (k + 1) < 4294967296 := by have := HNL.out (k + 1); omega
                have hand : bits .and .u8 ((q : Int) / 2 ^ (m % 8)) 1 = ((bitN q (m % 8) : Nat) : Int) := by
                  have h9 : q / 2 ^ (m % 8) ≤ q := Nat.div_le_self _ _
                  rw [shr_cast, and1_8 _ (by omega)]
                  rfl
                have hor := or_room32 (nu k) (bitN q (m % 8)) k (nu (k + 1)) hnl HS hv32
                have hb2 := bitN_lt q (m % 8)
                have HSK := HSET.out k
                have HSS := Lib.hid HSK
                clear HS hp32 HSK hnl
                generalize bitN q (m % 8) = bq at *
                generalize nu (k + 1) = v at *
                generalize nu k = u at *
                go_wp2_with fail
                refine wp_region_ord (fun w' => w'.cell? ⟨B, i, none⟩ = some (.int .u32 (u : Nat)) ∧ w'.cell? ⟨bb, bo + (1 + m / 8), none⟩ = some (.int .u8 (q : Nat))) [(0, 0), (0, 1), (0, 2), (1, 3), (0, 4), (0, 5), (0, 6), (0, 7), (0, 8), (1, 9), (0, 10), (0, 11), (0, 12), (0, 13), (0, 14), (0, 15), (0, 16), (0, 17), (0, 18), (3, 19)] (by kernel_rfl) (by kernel_rfl) ?_
                go_wp2_with (first
                  | (refine ord_pure rfl rfl rfl (fun K hK => ?_); go_big_quiet_op; refine hK _ ?_; clear hK K)
                                                                | (refine ord_skip rfl rfl ?_; simp only [Act.put, List.setIfInBounds_toArray, List.set_cons_zero, List.set_cons_succ])
                                                                | (refine ord_held rfl rfl rfl (⟨z0, y0⟩) (fun K hK => ?_); apply Exists.intro; refine ⟨fun w' hs => ?_, hK _ ?_⟩; (revert hs; dsimp only; (try simp only [and_imp]); intros; go_simp; rfl); clear hK K)
                                                                | (refine ord_keep rfl rfl (⟨z0, y0⟩) (fun K hK => ?_))
                                                                | (refine ord_drop rfl rfl (fun K hK => ?_))
                                                                | (refine ord_nil ?_))
                have HST : Hid (Mine.Own (wr.setCell ⟨B, i, none⟩ (.int .u32 (v : Nat))).drew 45 1 (some ⟨B, 0, none⟩) rows rows (u32s (pk r n rows i (k + 1)))) := Lib.hid (by
                  have h1 := hO3.out.store i (.int .u32 (v : Nat))
                  have h2 : u32s (pk r n rows i (k + 1)) = (u32s (pk r n rows i k)).set i (.int .u32 (v : Nat)) := by
                    rw [HSS.out]
                    unfold u32s
                    rw [List.map_set]
                  rw [h2]
                  exact h1.drew)
                have HMS : Hid (Mod (fun _ => False) w (wr.setCell ⟨B, i, none⟩ (.int .u32 (v : Nat))).drew) := Lib.hid (hM3.out.setCell (p := ⟨B, i, none⟩) (fun h => by have h2 : B < w.heap.size := h; have := HB.out; omega) _).drew
                go_roundw
                case rel => exact ⟨k + 1, by go_num, hlk, HST, HMS⟩
                case measure => simp [intOf]; omega
              · obtain rfl : k = n := by omega
                rw [HNX.out] at hO3
                go_wp2_with fail
                go_roundw
                case rel => exact ⟨i + 1, by go_num, hlt, hO3, hM3⟩
                case measure => simp [intOf]; omega
          · obtain rfl : i = rows := by omega
            go_wp2_with fail
            go_ret
            rw [HK.out, ← pk_all]
            refine ⟨some ⟨B, 0, none⟩, i, by rw [pk_len]; rfl, ⟨?_, fun b' hb' => ?_, hM.out⟩⟩
            · rw [u32s_len, pk_len]; exact hO.out
            · have := HB.out
              have : B = b' := by simpa [blk] using hb'
              omega
      · rw [if_pos (.inr hlen)] at hrk
        have HK := Lib.hid hrk
        have hq1 : ((r.length : Int) + 1 != 1 + ((N : Int) + 7) / 8) = true := by simp; omega
        clear hrk hlen
        go_enter Tryz.func102, Tryz.ntmps102
        go_wp2_with fail
        go_ret
        rw [HK.out]
        exact ⟨none, 0, rfl, VOwn.nil _ w⟩
end Go.Proofs.YtelfakglaghfoaaGreat
