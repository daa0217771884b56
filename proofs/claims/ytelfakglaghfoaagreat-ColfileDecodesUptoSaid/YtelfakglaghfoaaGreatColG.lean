/-
  The document's reading of a column of numbers: walked.
-/
import Derived.Test.YtelfakglaghfoaaGreatColF
namespace Go.Proofs.YtelfakglaghfoaaGreat
open Go Go.RowKit Go.Mine
set_option linter.unusedVariables false
set_option maxHeartbeats 8000000
set_option maxRecDepth 100000

theorem refGo_nil (v rows f : Nat) (acc : List Nat) (L : Option Nat) : refGo v rows f acc L [] = if acc.length = rows then some acc else none := by cases f <;> rfl
theorem refGo_on {v : Nat} (hv : v ≠ 3) (rows f : Nat) (acc : List Nat) (L : Option Nat) (x : Nat) (r : List Nat) :
    refGo v rows (f + 1) acc L (x :: r) = if 2 ^ 32 ≤ nextN (if v = 2 then L else none) x ∨ rows - acc.length < 1 then none else refGo v rows f (acc ++ [nextN (if v = 2 then L else none) x]) (some (nextN (if v = 2 then L else none) x)) r := by
  rw [refGo.eq_def]
  simp only
  rw [if_neg hv]
theorem refGo_three (rows f : Nat) (acc : List Nat) (L : Option Nat) (x n : Nat) (r : List Nat) :
    refGo 3 rows (f + 1) acc L (x :: n :: r) = if rows - acc.length < n ∨ 2 ^ 32 ≤ x then none else refGo 3 rows f (acc ++ List.replicate n x) (some x) r := rfl
theorem refGo_one3 (rows f : Nat) (acc : List Nat) (L : Option Nat) (x : Nat) : refGo 3 rows (f + 1) acc L [x] = none := rfl
theorem refRead_nums {v : Nat} (hv : v ≠ 4) (rows : Nat) (l : List UInt8) : refRead v rows l = (nums2 l).bind fun ns => refGo v rows ns.length [] none ns := by
  unfold refRead
  rw [if_neg hv]
  rfl
theorem u64_cell {w : World} {a : Option Addr} {c : List Nat} (h : Rd w a (u64s c)) {i : Nat} (hi : i < c.length) : ∃ b o, a = some ⟨b, o, none⟩ ∧ w.cell? ⟨b, o + i, none⟩ = some (.int .u64 (c[i] : Nat)) := by
  obtain ⟨b, o, e, hc⟩ := h i (.int .u64 (c[i] : Nat)) (by unfold u64s; rw [List.getElem?_map, List.getElem?_eq_getElem hi]; rfl)
  exact ⟨b, o, e, hc⟩
theorem snoc_repl (acc : List Nat) (k x : Nat) : acc ++ List.replicate (k + 1) x = (acc ++ List.replicate k x) ++ [x] := by rw [List.replicate_succ', List.append_assoc]
theorem read1R_any (a : Option Addr) (d rows : Nat) (l : List UInt8) (w : World) (hr : Rd w a (bts l)) (hl : l.length < 2 ^ 40) (hd : l.length ≤ d) (hrows : rows ≤ 65536) :
    Calls Tryz.prog 47 #[.int .i64 1, .slice a l.length d, .int .i64 rows] w (ReadPost (refRead 1 rows l) w) := by
  have HNUM := Lib.hid (numsR_any a l d w hr hl hd)
  have HRR := Lib.hid (refRead_nums (v := 1) (by omega) rows l)
  clear hr
  go_enter Tryz.func47, Tryz.ntmps47
  go_wp2_with fail
  refine HNUM.out.mono ?_
  rintro e w1 (⟨hn, rfl, hm⟩ | ⟨ns, na, nc, hn, hlt, hnl, rfl, hO⟩)
  · have H0 : Hid (refRead 1 rows l = none) := Lib.hid (by rw [HRR.out, hn]; rfl)
    clear hn
    go_wp2_with fail
    refine bodyPost_ret (v := .tuple #[.slice none 0 0, .bool false]) (by simp [results, Tryz.results47, go_sem]) rfl ?_
    rw [H0.out]
    exact ⟨_, rfl, hm, fun c h => by cases h⟩
  · have H0 : Hid (refRead 1 rows l = refGo 1 rows ns.length [] none ns) := Lib.hid (by rw [HRR.out, hn]; rfl)
    have HNS := Lib.hid hO; have HNL := Lib.hid hlt
    have hnsl : ns.length < 2 ^ 40 := by omega
    clear hn hlt hO HNUM HRR hnl
    go_wp2_with fail
    go_loopw [8, 16, 17, 18, 19, 20] (fun cv lv iv _ _ _ wr => ∃ (i f : Nat) (acc : List Nat) (L : Option Nat) (la : Int) (oa : Option Addr) (oc : Nat), iv = .int .i64 i ∧ i ≤ ns.length ∧ lv = .int .i64 la ∧ cv = .slice oa acc.length oc ∧ acc.length ≤ rows ∧ ns.length - i ≤ f ∧ Hid (refRead 1 rows l = refGo 1 rows f acc L (ns.drop i)) ∧ Hid (VOwn 45 w1 wr oa oc (u32s acc))) (fun _ _ iv _ _ _ _ => ns.length - (intOf iv).toNat)
    case atStart => exact ⟨0, ns.length, [], none, 0, none, 0, rfl, Nat.zero_le _, rfl, rfl, Nat.zero_le _, by omega, H0, Lib.hid (VOwn.nil _ w1)⟩
    case round =>
      obtain ⟨i, f, acc, L, la, oa, oc, rfl, hi, rfl, rfl, hal, hf, hG, hO⟩ := hrel
      by_cases hlt : i < ns.length
      · obtain ⟨b, o, rfl, x0⟩ := u64_cell (HNS.out.own.rd.mod hO.out.md (fun _ _ => id)) hlt
        obtain ⟨f', rfl⟩ : ∃ f', f = f' + 1 := ⟨f - 1, by omega⟩
        have hx64 := HNL.out _ (List.getElem_mem hlt)
        have HST : Hid (refRead 1 rows l = if 2 ^ 32 ≤ ns[i] ∨ rows - acc.length < 1 then none else refGo 1 rows f' (acc ++ [ns[i]]) (some ns[i]) (ns.drop (i + 1))) := Lib.hid (by
          rw [hG.out, List.drop_eq_getElem_cons hlt, refGo_on (by omega)]; rfl)
        clear hG
        generalize ns[i] = x at *
        by_cases hbad : 2 ^ 32 ≤ x ∨ rows - acc.length < 1
        · have H1 : Hid (refRead 1 rows l = none) := Lib.hid (by rw [HST.out, if_pos hbad])
          clear HST
          have HBAD := Lib.hid hbad
          clear hbad
          by_cases h32 : 2 ^ 32 ≤ x
          · go_wp2_with fail
            refine bodyPost_ret (v := .tuple #[.slice none 0 0, .bool false]) (by simp [results, Tryz.results47, go_sem]) rfl ?_
            rw [H1.out]
            exact ⟨_, rfl, HNS.out.md.trans hO.out.md, fun c h => by cases h⟩
          · have hfull : rows ≤ acc.length := by have := HBAD.out; omega
            go_wp2_with fail
            refine bodyPost_ret (v := .tuple #[.slice none 0 0, .bool false]) (by simp [results, Tryz.results47, go_sem]) rfl ?_
            rw [H1.out]
            exact ⟨_, rfl, HNS.out.md.trans hO.out.md, fun c h => by cases h⟩
        · have H1 : Hid (refRead 1 rows l = refGo 1 rows f' (acc ++ [x]) (some x) (ns.drop (i + 1))) := Lib.hid (by rw [HST.out, if_neg hbad])
          clear HST
          have h32 : x < 2 ^ 32 := by omega
          have hroom : acc.length + 1 ≤ rows := by omega
          clear hbad
          go_wp2_with fail
          go_loopw [8, 20] (fun cv kv wr => ∃ (k : Nat) (oa' : Option Addr) (oc' : Nat), kv = .int .i64 k ∧ k ≤ 1 ∧ cv = .slice oa' (acc.length + k) oc' ∧ Hid (VOwn 45 w1 wr oa' oc' (u32s (acc ++ List.replicate k x)))) (fun _ kv _ => 1 - (intOf kv).toNat)
          case atStart => exact ⟨0, oa, oc, rfl, Nat.zero_le _, rfl, by simpa using hO⟩
          case round =>
            obtain ⟨k, oa', oc', rfl, hk, rfl, hO'⟩ := hrel
            by_cases hlk : k < 1
            · have HOWN : Hid (Mine.Own wr 45 1 oa' (acc.length + k) oc' (u32s (acc ++ List.replicate k x))) := Lib.hid (by
                have h1 := hO'.out.own
                rw [u32s_len, List.length_append, List.length_replicate] at h1
                exact h1)
              have hbig : acc.length + k + 1 ≤ 65536 := (by omega)
              go_wp2_with (at_builtin; refine wpL_appendN (us := [.int .u32 (x : Nat)]) rfl (.tmp 161) (.tmp 164) 68 rfl tiU32 rfl HOWN.out rfl rfl rfl (by show (acc.length + k + 1) * 4 ≤ _; omega) (by show acc.length + k + 1 ≤ _; unfold maxLen; omega) ?_; intro a3 c3 w3 hO3 hG3 _
                           have HO3 : Hid (VOwn 45 w1 w3 a3 c3 (u32s (acc ++ List.replicate (k + 1) x))) := Lib.hid (by
                             rw [snoc_repl, u32s_snoc]
                             exact hO'.out.app hG3 hO3 (by simp)); clear hO3 hG3)
              go_roundw
              case rel => exact ⟨k + 1, a3, c3, by go_num, hlk, rfl, HO3⟩
              case measure => simp [intOf]; omega
            · have HK1 := Lib.hid (show k = 1 by omega)
              go_wp2_with fail
              go_roundw
              case rel => exact ⟨i + 1, f', acc ++ List.replicate k x, some x, (x : Nat), oa', oc', by go_num, hlt, rfl, by simp, by simp; have := HK1.out; omega, by omega, Lib.hid (by rw [HK1.out]; exact H1.out), hO'⟩
              case measure => simp [intOf]; omega
      · skip
        obtain rfl : i = ns.length := by omega
        have H1 : Hid (refRead 1 rows l = if acc.length = rows then some acc else none) := Lib.hid (by rw [hG.out, List.drop_length, refGo_nil])
        by_cases hfull : acc.length = rows
        · rw [if_pos hfull] at H1
          have hbe : ((acc.length : Int) == (rows : Int)) = true := by simp; omega
          have HF := Lib.hid hfull
          clear hfull hG hf
          go_wp2_with fail
          refine bodyPost_ret (v := .tuple #[.slice oa acc.length oc, .bool true]) (by simp [results, Tryz.results47, go_sem]) rfl ?_
          rw [H1.out]
          refine ⟨_, rfl, HNS.out.md.trans hO.out.md, fun c h => ?_⟩
          cases h
          exact ⟨oa, oc, rfl, hO.out.own, fun b hb => Nat.le_trans HNS.out.md.size (hO.out.fr b hb), HNS.out.md.trans hO.out.md⟩
        · rw [if_neg hfull] at H1
          have hbe : ((acc.length : Int) == (rows : Int)) = false := by simp; omega
          clear hfull hG hf
          go_wp2_with fail
          refine bodyPost_ret (v := .tuple #[.slice oa acc.length oc, .bool false]) (by simp [results, Tryz.results47, go_sem]) rfl ?_
          rw [H1.out]
          exact ⟨_, rfl, HNS.out.md.trans hO.out.md, fun c h => by cases h⟩
end Go.Proofs.YtelfakglaghfoaaGreat
