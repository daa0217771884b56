/-
  The document's reading of a packed column: walked.
-/
import Derived.Test.YtelfakglaghfoaaGreatColD
namespace Go.Proofs.YtelfakglaghfoaaGreat
open Go Go.RowKit Go.Mine
set_option linter.unusedVariables false
set_option maxHeartbeats 4000000
set_option maxRecDepth 100000

def ReadPost (r : Option (List Nat)) (w : World) (e : Ending) (w' : World) : Prop :=
  ∃ x, e = .returned (.tuple #[x, .bool r.isSome]) ∧ Mod (fun _ => False) w w' ∧ ∀ c, r = some c → ∃ a' c', x = .slice a' c.length c' ∧ VOwn 45 w w' a' c' (u32s c)
@[simp] theorem u32s_len (l : List Nat) : (u32s l).length = l.length := by simp [u32s]
theorem u32s_snoc (l : List Nat) (n : Nat) : u32s (l ++ [n]) = u32s l ++ [.int .u32 (n : Nat)] := by simp [u32s]
theorem numUp_succ (l : List UInt8) (w i m : Nat) : numUp l w i (m + 1) = numUp l w i m + bitB l (i * w + m) * 2 ^ m := by
  unfold numUp
  rw [List.range_succ, List.map_append, List.sum_append]
  simp
theorem bit_add (u q e k v : Nat) (hv : v = u + bitN q e * 2 ^ k) (hlt : v < 2 ^ 32) : ((u : Int) + ((q : Int) / 2 ^ e).tmod 2 % 4294967296 * 2 ^ k % 4294967296) % 4294967296 = (v : Int) := by
  have hb := bitN_lt q e
  have e1 : ((q : Int) / 2 ^ e).tmod 2 = ((bitN q e : Nat) : Int) := by
    rw [shr_cast, Int.tmod_eq_emod_of_nonneg (Int.natCast_nonneg _)]
    unfold bitN
    omega
  have e2 : ((bitN q e : Nat) : Int) % 4294967296 = ((bitN q e : Nat) : Int) := by omega
  have e3 : ((bitN q e : Nat) : Int) * 2 ^ k = ((bitN q e * 2 ^ k : Nat) : Int) := by push_cast; rfl
  rw [e1, e2, e3]
  generalize bitN q e * 2 ^ k = P at *
  omega
theorem read4R_any (a : Option Addr) (d rows : Nat) (l : List UInt8) (w : World) (hr : Rd w a (bts l)) (hl : l.length < 2 ^ 40) (hd : l.length ≤ d) (hrows : rows ≤ 65536) :
    Calls Tryz.prog 47 #[.int .i64 4, .slice a l.length d, .int .i64 rows] w (ReadPost (refRead 4 rows l) w) := by
  have HR := Lib.hid hr
  clear hr
  cases l with
  | nil =>
    have HN : Hid (refRead 4 rows [] = none) := Lib.hid rfl
    go_enter Tryz.func47, Tryz.ntmps47
    go_wp2_with fail
    exact bodyPost_ret (v := .tuple #[.slice none 0 0, .bool false]) (by simp [results, Tryz.results47, go_sem]) rfl ⟨_, rfl, Mod.refl _ _, fun c h => by cases h⟩
  | cons b r =>
    obtain ⟨bb, bo, rfl, x0⟩ := byte_cell HR.out (i := 0) (by simp)
    have hb := b.toNat_lt
    have hr0 : refRead 4 rows (b :: r) = if 32 < b.toNat ∨ r.length ≠ (rows * b.toNat + 7) / 8 then none else some (rkL rows (b :: r)) := rfl
    have hrk : rkL rows (b :: r) = if 32 < b.toNat ∨ r.length ≠ (rows * b.toNat + 7) / 8 then [] else (List.range rows).map fun i => numUp r b.toNat i b.toNat := rfl
    rw [List.getElem_cons_zero, Nat.add_zero] at x0
    rw [List.length_cons] at hl hd ⊢
    have HRR : Hid (∀ j (h : j < r.length), w.cell? ⟨bb, bo + (1 + j), none⟩ = some (.int .u8 (r[j].toNat : Nat))) := Lib.hid (fun j h => by
      obtain ⟨b', o', e', h1⟩ := byte_cell HR.out (i := j + 1) (by simp; omega)
      cases e'
      rw [List.getElem_cons_succ] at h1
      rw [Nat.add_comm 1 j]
      exact h1)
    generalize b.toNat = n at *
    by_cases h32 : 32 < n
    · rw [if_pos (.inl h32)] at hr0
      have H0 := Lib.hid hr0
      clear hr0 hrk
      go_enter Tryz.func47, Tryz.ntmps47
      go_wp2_with fail
      refine bodyPost_ret (v := .tuple #[.slice none 0 0, .bool false]) (by simp [results, Tryz.results47, go_sem]) rfl ?_
      rw [H0.out]
      exact ⟨_, rfl, Mod.refl _ _, fun c h => by cases h⟩
    · obtain ⟨N, hN⟩ : ∃ N, N = rows * n := ⟨_, rfl⟩
      have hNb : N ≤ 65536 * 32 := by rw [hN]; exact Nat.mul_le_mul hrows (by omega)
      have hNZ : (rows : Int) * (n : Int) = (N : Int) := by rw [hN]; push_cast; rfl
      rw [← hN] at hr0 hrk
      have HN := Lib.hid hN
      clear hN
      have hq0 : ((r.length : Int) + 1 == 0) = false := by simp; omega
      have hq32 : decide ((32 : Int) < (n : Int)) = false := by simp; omega
      by_cases hlen : r.length = (N + 7) / 8
      · rw [if_neg (by omega)] at hr0 hrk
        have H0 := Lib.hid hr0; have HK := Lib.hid hrk
        have hq1 : ((r.length : Int) != ((N : Int) + 7) / 8) = false := by simp; omega
        have HLEN := Lib.hid hlen
        clear hr0 hrk hlen
        go_enter Tryz.func47, Tryz.ntmps47
        go_wp2_with fail
        go_loopw [8, 10, 11, 12, 13] (fun cv iv _ _ _ wr => ∃ (i : Nat) (oa : Option Addr) (oc : Nat), iv = .int .i64 i ∧ i ≤ rows ∧ cv = .slice oa i oc ∧ Hid (VOwn 45 w wr oa oc (u32s ((List.range i).map fun i => numUp r n i n)))) (fun _ iv _ _ _ _ => rows - (intOf iv).toNat)
        case atStart => exact ⟨0, none, 0, rfl, Nat.zero_le _, rfl, Lib.hid (VOwn.nil _ w)⟩
        case round =>
          obtain ⟨i, oa, oc, rfl, hi, rfl, hO⟩ := hrel
          by_cases hlt : i < rows
          · have hIN : i * n + n ≤ N := by
              rw [HN.out]
              have := Nat.mul_le_mul_right n (show i + 1 ≤ rows by omega)
              rw [Nat.add_mul] at this
              omega
            have hiW : (i : Int) * (n : Int) = ((i * n : Nat) : Int) := by push_cast; rfl
            have HNS := Lib.hid (fun k => numUp_succ r n i k)
            have HNL := Lib.hid (fun k => numUp_lt r n i k)
            have HN0 : Hid (numUp r n i 0 = 0) := Lib.hid rfl
            have HRS : Hid (u32s ((List.range (i + 1)).map fun i => numUp r n i n) = u32s ((List.range i).map fun i => numUp r n i n) ++ [.int .u32 (numUp r n i n : Nat)]) := Lib.hid (by
              rw [List.range_succ, List.map_append]
              exact u32s_snoc _ _)
            have HOWN : Hid (Mine.Own wr 45 1 oa i oc (u32s ((List.range i).map fun i => numUp r n i n))) := Lib.hid (by
              have h1 := hO.out.own
              rw [u32s_len, List.length_map, List.length_range] at h1
              exact h1)
            generalize i * n = I at *
            generalize hnu : numUp r n i = nu at *
            rename World => wq
            go_wp2_with fail
            go_loopw [11, 12, 13] (fun xv kv _ wr => ∃ k : Nat, kv = .int .i64 k ∧ k ≤ n ∧ xv = .int .u32 (nu k : Nat) ∧ wr = wq) (fun _ kv _ _ => n - (intOf kv).toNat)
            case atStart => exact ⟨0, rfl, Nat.zero_le _, by rw [HN0.out]; rfl, rfl⟩
            case round =>
              obtain ⟨k, rfl, hk, rfl, hww⟩ := hrel
              obtain rfl : wq = wr := hww.symm
              clear hww
              by_cases hlk : k < n
              · have hmI : (I : Int) + (k : Int) = ((I + k : Nat) : Int) := by omega
                have hmN : I + k < N := by omega
                have hm8 : (I + k) / 8 < r.length := by have := HLEN.out; omega
                have y0 := hO.out.md.cell (HRR.out ((I + k) / 8) hm8) id
                have HBB : Hid (bitB r (I + k) = bitN (r[(I + k) / 8].toNat) ((I + k) % 8)) := Lib.hid (by
                  unfold bitB; rw [List.getD_eq_getElem?_getD, List.getElem?_eq_getElem hm8]; rfl)
                have HS := HNS.out k
                have hq8 : r[(I + k) / 8].toNat < 256 := r[(I + k) / 8].toNat_lt
                rw [HBB.out] at HS
                generalize r[(I + k) / 8].toNat = q at *
                generalize I + k = m at *
                have hnl := HNL.out k
                have hnl1 := HNL.out (k + 1)
                have hp32 : 2 ^ (k + 1) ≤ 2 ^ 32 := Nat.pow_le_pow_right (by omega) (by omega)
                have HSS := Lib.hid HS
                clear HS
                go_wp2_with fail
                go_roundw
                case rel => exact ⟨k + 1, by go_num, hlk, by rw [bit_add (nu k) q (m % 8) k (nu (k + 1)) HSS.out (by omega)], trivial⟩
                case measure => simp [intOf]; omega
              · obtain rfl : k = n := by omega
                go_wp2_with (at_builtin; refine wpL_appendN (us := [.int .u32 (nu k : Nat)]) rfl (.tmp 82) (.tmp 84) 68 rfl tiU32 rfl HOWN.out rfl rfl rfl (by show (i + 1) * 4 ≤ _; omega) (by show i + 1 ≤ _; unfold maxLen; omega) ?_; intro a3 c3 w3 hO3 hG3 _
                             have HO3 := Lib.hid (hO.out.app hG3 hO3 (by simp)); clear hO3 hG3)
                go_roundw
                case rel => exact ⟨i + 1, a3, c3, by go_num, hlt, rfl, by rw [HRS.out]; exact HO3⟩
                case measure => simp [intOf]; omega
          · obtain rfl : i = rows := by omega
            go_wp2_with fail
            refine bodyPost_ret (v := .tuple #[.slice oa i oc, .bool true]) (by simp [results, Tryz.results47, go_sem]) rfl ?_
            rw [H0.out]
            refine ⟨_, rfl, hO.out.md, fun c h => ?_⟩
            rw [HK.out] at h
            cases h
            exact ⟨oa, oc, by simp, hO.out⟩
      · rw [if_pos (.inr hlen)] at hr0
        have H0 := Lib.hid hr0
        have hq1 : ((r.length : Int) != ((N : Int) + 7) / 8) = true := by simp; omega
        clear hr0 hrk hlen
        go_enter Tryz.func47, Tryz.ntmps47
        go_wp2_with fail
        refine bodyPost_ret (v := .tuple #[.slice none 0 0, .bool false]) (by simp [results, Tryz.results47, go_sem]) rfl ?_
        rw [H0.out]
        exact ⟨_, rfl, Mod.refl _ _, fun c h => by cases h⟩
end Go.Proofs.YtelfakglaghfoaaGreat
