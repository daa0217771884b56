/-
  The document's reading of a column of steps, of runs: walked.
-/
import Derived.Test.YtelfakglaghfoaaGreatColG
namespace Go.Proofs.YtelfakglaghfoaaGreat
open Go Go.RowKit Go.Mine
set_option linter.unusedVariables false
set_option maxHeartbeats 8000000
set_option maxRecDepth 100000

theorem next_cast {q n : Nat} (hq : q < 2 ^ 32) (hn : n < 2 ^ 64) : IntKind.u64.wrap (wrap64 ((q : Int) + backN n)) = ((nextN (some q) n : Nat) : Int) := by
  rw [IntKind.wrap_u64]
  unfold wrap64 nextN
  simp only
  omega
theorem read2R_any (a : Option Addr) (d rows : Nat) (l : List UInt8) (w : World) (hr : Rd w a (bts l)) (hl : l.length < 2 ^ 40) (hd : l.length ≤ d) (hrows : rows ≤ 65536) :
    Calls Tryz.prog 47 #[.int .i64 2, .slice a l.length d, .int .i64 rows] w (ReadPost (refRead 2 rows l) w) := by
  have HNUM := Lib.hid (numsR_any a l d w hr hl hd)
  have HRR := Lib.hid (refRead_nums (v := 2) (by omega) rows l)
  clear hr
  go_enter Tryz.func47, Tryz.ntmps47
  go_wp2_with fail
  refine HNUM.out.mono ?_
  rintro e w1 (⟨hn, rfl, hm⟩ | ⟨ns, na, nc, hn, hlt, hnl, rfl, hO⟩)
  · have H0 : Hid (refRead 2 rows l = none) := Lib.hid (by rw [HRR.out, hn]; rfl)
    clear hn
    go_wp2_with fail
    refine bodyPost_ret (v := .tuple #[.slice none 0 0, .bool false]) (by simp [results, Tryz.results47, go_sem]) rfl ?_
    rw [H0.out]
    exact ⟨_, rfl, hm, fun c h => by cases h⟩
  · have H0 : Hid (refRead 2 rows l = refGo 2 rows ns.length [] none ns) := Lib.hid (by rw [HRR.out, hn]; rfl)
    have HNS := Lib.hid hO; have HNL := Lib.hid hlt
    have hnsl : ns.length < 2 ^ 40 := by omega
    clear hn hlt hO HNUM HRR hnl
    go_wp2_with fail
    go_loopw [8, 16, 17, 18, 19, 20] (fun cv lv iv _ _ _ wr => ∃ (i f : Nat) (acc : List Nat) (L : Option Nat) (la : Int) (oa : Option Addr) (oc : Nat), iv = .int .i64 i ∧ i ≤ ns.length ∧ lv = .int .i64 la ∧ cv = .slice oa acc.length oc ∧ acc.length ≤ rows ∧ ns.length - i ≤ f ∧ Hid ((i = 0 ∧ L = none) ∨ ∃ q : Nat, L = some q ∧ 0 < i ∧ la = q ∧ q < 2 ^ 32) ∧ Hid (refRead 2 rows l = refGo 2 rows f acc L (ns.drop i)) ∧ Hid (VOwn 45 w1 wr oa oc (u32s acc))) (fun _ _ iv _ _ _ _ => ns.length - (intOf iv).toNat)
    case atStart => exact ⟨0, ns.length, [], none, 0, none, 0, rfl, Nat.zero_le _, rfl, rfl, Nat.zero_le _, by omega, Lib.hid (.inl ⟨rfl, rfl⟩), H0, Lib.hid (VOwn.nil _ w1)⟩
    case round =>
      obtain ⟨i, f, acc, L, la, oa, oc, rfl, hi, rfl, rfl, hal, hf, hL, hG, hO⟩ := hrel
      by_cases hlt : i < ns.length
      · obtain ⟨b, o, rfl, x0⟩ := u64_cell (HNS.out.own.rd.mod hO.out.md (fun _ _ => id)) hlt
        obtain ⟨f', rfl⟩ : ∃ f', f = f' + 1 := ⟨f - 1, by omega⟩
        have hx64 := HNL.out _ (List.getElem_mem hlt)
        have HST0 : Hid (refRead 2 rows l = if 2 ^ 32 ≤ nextN L ns[i] ∨ rows - acc.length < 1 then none else refGo 2 rows f' (acc ++ [nextN L ns[i]]) (some (nextN L ns[i])) (ns.drop (i + 1))) := Lib.hid (by
          rw [hG.out, List.drop_eq_getElem_cons hlt, refGo_on (by omega)]; rfl)
        clear hG
        rcases hL.out with ⟨hi0, rfl⟩ | ⟨q, rfl, hi0, rfl, hq⟩
        · have hkz : decide (0 < i) = false := by simp; omega
          have HST : Hid (refRead 2 rows l = if 2 ^ 32 ≤ ns[i] ∨ rows - acc.length < 1 then none else refGo 2 rows f' (acc ++ [ns[i]]) (some ns[i]) (ns.drop (i + 1))) := HST0
          clear HST0 hL hi0
          generalize ns[i] = x at *
          by_cases hbad : 2 ^ 32 ≤ x ∨ rows - acc.length < 1
          · have H1 : Hid (refRead 2 rows l = none) := Lib.hid (by rw [HST.out, if_pos hbad])
            clear HST
            have HBAD := Lib.hid hbad
            clear hbad
            by_cases h32 : 2 ^ 32 ≤ x
            · go_wp2_with fail
              refine bodyPost_ret (v := .tuple #[.slice none 0 0, .bool false]) (by simp [results, Tryz.results47, go_sem]) rfl ?_
              rw [H1.out]
              exact ⟨_, rfl, HNS.out.md.trans hO.out.md, fun c h => by cases h⟩
            · have hfull : rows ≤ acc.length := by have := HBAD.out; omega
              go_wp2_with fail
              refine bodyPost_ret (v := .tuple #[.slice none 0 0, .bool false]) (by simp [results, Tryz.results47, go_sem]) rfl ?_
              rw [H1.out]
              exact ⟨_, rfl, HNS.out.md.trans hO.out.md, fun c h => by cases h⟩
          · have H1 : Hid (refRead 2 rows l = refGo 2 rows f' (acc ++ [x]) (some x) (ns.drop (i + 1))) := Lib.hid (by rw [HST.out, if_neg hbad])
            clear HST
            have h32 : x < 2 ^ 32 := by omega
            have hroom : acc.length + 1 ≤ rows := by omega
            clear hbad
            go_wp2_with fail
            go_loopw [8, 20] (fun cv kv wr => ∃ (k : Nat) (oa' : Option Addr) (oc' : Nat), kv = .int .i64 k ∧ k ≤ 1 ∧ cv = .slice oa' (acc.length + k) oc' ∧ Hid (VOwn 45 w1 wr oa' oc' (u32s (acc ++ List.replicate k x)))) (fun _ kv _ => 1 - (intOf kv).toNat)
            case atStart => exact ⟨0, oa, oc, rfl, Nat.zero_le _, rfl, by simpa using hO⟩
            case round =>
              obtain ⟨k, oa', oc', rfl, hk, rfl, hO'⟩ := hrel
              by_cases hlk : k < 1
              · have HOWN : Hid (Mine.Own wr 45 1 oa' (acc.length + k) oc' (u32s (acc ++ List.replicate k x))) := Lib.hid (by
                  have h1 := hO'.out.own
                  rw [u32s_len, List.length_append, List.length_replicate] at h1
                  exact h1)
                have hbig : acc.length + k + 1 ≤ 65536 := (by omega)
                go_wp2_with (at_builtin; refine wpL_appendN (us := [.int .u32 (x : Nat)]) rfl (.tmp 161) (.tmp 164) 68 rfl tiU32 rfl HOWN.out rfl rfl rfl (by show (acc.length + k + 1) * 4 ≤ _; omega) (by show acc.length + k + 1 ≤ _; unfold maxLen; omega) ?_; intro a3 c3 w3 hO3 hG3 _
                             have HO3 : Hid (VOwn 45 w1 w3 a3 c3 (u32s (acc ++ List.replicate (k + 1) x))) := Lib.hid (by
                               rw [snoc_repl, u32s_snoc]
                               exact hO'.out.app hG3 hO3 (by simp)); clear hO3 hG3)
                go_roundw
                case rel => exact ⟨k + 1, a3, c3, by go_num, hlk, rfl, HO3⟩
                case measure => simp [intOf]; omega
              · have HK1 := Lib.hid (show k = 1 by omega)
                go_wp2_with fail
                go_roundw
                case rel => exact ⟨i + 1, f', acc ++ List.replicate k x, some x, (x : Nat), oa', oc', by go_num, hlt, rfl, by simp, by simp; have := HK1.out; omega, by omega, Lib.hid (.inr ⟨x, rfl, by omega, rfl, h32⟩), Lib.hid (by rw [HK1.out]; exact H1.out), hO'⟩
                case measure => simp [intOf]; omega
        · have hnc := next_cast hq hx64
          have HBK := Lib.hid (backR_any ns[i] hx64 wr)
          have hnx64 : nextN (some q) ns[i] < 2 ^ 64 := by unfold nextN; simp only; omega
          clear hL
          have HST := HST0
          clear HST0
          generalize nextN (some q) ns[i] = x at *
          generalize hbk : backN ns[i] = bk at *
          generalize ns[i] = n0 at *
          go_wp2_with fail
          refine HBK.out.mono ?_
          rintro e w2 ⟨rfl, hw2⟩
          obtain rfl : wr = w2 := hw2
          clear HBK
          by_cases hbad : 2 ^ 32 ≤ x ∨ rows - acc.length < 1
          · have H1 : Hid (refRead 2 rows l = none) := Lib.hid (by rw [HST.out, if_pos hbad])
            clear HST
            have HBAD := Lib.hid hbad
            clear hbad
            by_cases h32 : 2 ^ 32 ≤ x
            · go_wp2_with fail
              refine bodyPost_ret (v := .tuple #[.slice none 0 0, .bool false]) (by simp [results, Tryz.results47, go_sem]) rfl ?_
              rw [H1.out]
              exact ⟨_, rfl, HNS.out.md.trans hO.out.md, fun c h => by cases h⟩
            · have hfull : rows ≤ acc.length := by have := HBAD.out; omega
              go_wp2_with fail
              refine bodyPost_ret (v := .tuple #[.slice none 0 0, .bool false]) (by simp [results, Tryz.results47, go_sem]) rfl ?_
              rw [H1.out]
              exact ⟨_, rfl, HNS.out.md.trans hO.out.md, fun c h => by cases h⟩
          · have H1 : Hid (refRead 2 rows l = refGo 2 rows f' (acc ++ [x]) (some x) (ns.drop (i + 1))) := Lib.hid (by rw [HST.out, if_neg hbad])
            clear HST
            have h32 : x < 2 ^ 32 := by omega
            have hroom : acc.length + 1 ≤ rows := by omega
            clear hbad
            go_wp2_with fail
            go_loopw [8, 20] (fun cv kv wr => ∃ (k : Nat) (oa' : Option Addr) (oc' : Nat), kv = .int .i64 k ∧ k ≤ 1 ∧ cv = .slice oa' (acc.length + k) oc' ∧ Hid (VOwn 45 w1 wr oa' oc' (u32s (acc ++ List.replicate k x)))) (fun _ kv _ => 1 - (intOf kv).toNat)
            case atStart => exact ⟨0, oa, oc, rfl, Nat.zero_le _, rfl, by simpa using hO⟩
            case round =>
              obtain ⟨k, oa', oc', rfl, hk, rfl, hO'⟩ := hrel
              by_cases hlk : k < 1
              · have HOWN : Hid (Mine.Own wr 45 1 oa' (acc.length + k) oc' (u32s (acc ++ List.replicate k x))) := Lib.hid (by
                  have h1 := hO'.out.own
                  rw [u32s_len, List.length_append, List.length_replicate] at h1
                  exact h1)
                have hbig : acc.length + k + 1 ≤ 65536 := (by omega)
                go_wp2_with (at_builtin; refine wpL_appendN (us := [.int .u32 (x : Nat)]) rfl (.tmp 161) (.tmp 164) 68 rfl tiU32 rfl HOWN.out rfl rfl rfl (by show (acc.length + k + 1) * 4 ≤ _; omega) (by show acc.length + k + 1 ≤ _; unfold maxLen; omega) ?_; intro a3 c3 w3 hO3 hG3 _
                             have HO3 : Hid (VOwn 45 w1 w3 a3 c3 (u32s (acc ++ List.replicate (k + 1) x))) := Lib.hid (by
                               rw [snoc_repl, u32s_snoc]
                               exact hO'.out.app hG3 hO3 (by simp)); clear hO3 hG3)
                go_roundw
                case rel => exact ⟨k + 1, a3, c3, by go_num, hlk, rfl, HO3⟩
                case measure => simp [intOf]; omega
              · have HK1 := Lib.hid (show k = 1 by omega)
                go_wp2_with fail
                go_roundw
                case rel => exact ⟨i + 1, f', acc ++ List.replicate k x, some x, (x : Nat), oa', oc', by go_num, hlt, rfl, by simp, by simp; have := HK1.out; omega, by omega, Lib.hid (.inr ⟨x, rfl, by omega, rfl, h32⟩), Lib.hid (by rw [HK1.out]; exact H1.out), hO'⟩
                case measure => simp [intOf]; omega
      · skip
        obtain rfl : i = ns.length := by omega
        have H1 : Hid (refRead 2 rows l = if acc.length = rows then some acc else none) := Lib.hid (by rw [hG.out, List.drop_length, refGo_nil])
        by_cases hfull : acc.length = rows
        · rw [if_pos hfull] at H1
          have hbe : ((acc.length : Int) == (rows : Int)) = true := by simp; omega
          have HF := Lib.hid hfull
          clear hfull hG hf
          go_wp2_with fail
          refine bodyPost_ret (v := .tuple #[.slice oa acc.length oc, .bool true]) (by simp [results, Tryz.results47, go_sem]) rfl ?_
          rw [H1.out]
          refine ⟨_, rfl, HNS.out.md.trans hO.out.md, fun c h => ?_⟩
          cases h
          exact ⟨oa, oc, rfl, hO.out.own, fun b hb => Nat.le_trans HNS.out.md.size (hO.out.fr b hb), HNS.out.md.trans hO.out.md⟩
        · rw [if_neg hfull] at H1
          have hbe : ((acc.length : Int) == (rows : Int)) = false := by simp; omega
          clear hfull hG hf
          go_wp2_with fail
          refine bodyPost_ret (v := .tuple #[.slice oa acc.length oc, .bool false]) (by simp [results, Tryz.results47, go_sem]) rfl ?_
          rw [H1.out]
          exact ⟨_, rfl, HNS.out.md.trans hO.out.md, fun c h => by cases h⟩
end Go.Proofs.YtelfakglaghfoaaGreat
