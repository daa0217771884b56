/-
  The tables' plain questions: none, Len, Find, Text; New.
-/
import Derived.Test.YtcmgeiohcgngeaaSymTb
namespace Go.Proofs.Ytcmgeiohcgngeaa
open Go Go.RowKit Go.Mine Go.Maps
set_option linter.unusedVariables false
set_option maxHeartbeats 4000000
set_option maxRecDepth 100000

theorem none_nil (w : World) : Calls Try.prog 28 #[.pointer none] w fun e w' => e = .returned (.bool true) ∧ w = w' := by
  go_enter Try.func28, Try.ntmps28
  go_wp2
  go_ret
  exact ⟨rfl, rfl⟩
theorem none_zero (T : Nat) (v : Value) (w : World) (h : w.cell? ⟨T, 1, none⟩ = some (.map none)) : Calls Try.prog 28 #[.pointer (some ⟨T, 0, none⟩)] w fun e w' => e = .returned (.bool true) ∧ w = w' := by
  have qM : ∀ (w : World) (r : Option Nat), (binOp .eql 36 (.map r) (.map none)).run Try.prog w = .ok (.bool r.isNone) w := fun w r => run_eql_map_nil w _ _ _ r Try.underlying36
  go_enter Try.func28, Try.ntmps28
  go_wp2
  go_ret
  exact ⟨rfl, rfl⟩
section
variable {w : World} {T B M c : Nat} {a : Option Addr} {l : List ByteArray}
theorem none_tb (h : TbAt w T a c B l) : Calls Try.prog 28 #[.pointer (some ⟨T, 0, none⟩)] w fun e w' => e = .returned (.bool false) ∧ w = w' := by
  have c1 := h.c1
  clear h
  have qM : ∀ (w : World) (r : Option Nat), (binOp .eql 36 (.map r) (.map none)).run Try.prog w = .ok (.bool r.isNone) w := fun w r => run_eql_map_nil w _ _ _ r Try.underlying36
  go_enter Try.func28, Try.ntmps28
  go_wp2_with fail
  go_ret
  exact ⟨rfl, rfl⟩
theorem len_nil (w : World) : Calls Try.prog 12 #[.pointer none] w fun e w' => e = .returned (.int .i64 0) ∧ w = w' := by
  go_enter Try.func12, Try.ntmps12
  go_wp2_with (go_at_call 28; refine (none_nil _).mono ?_; rintro e w' ⟨rfl, rfl⟩)
  go_ret
  exact ⟨rfl, rfl⟩
theorem len_zero (T : Nat) (v : Value) (w : World) (h : w.cell? ⟨T, 1, none⟩ = some (.map none)) : Calls Try.prog 12 #[.pointer (some ⟨T, 0, none⟩)] w fun e w' => e = .returned (.int .i64 0) ∧ w = w' := by
  have HN := Lib.hid (none_zero T v w h)
  clear h
  go_enter Try.func12, Try.ntmps12
  go_wp2_with (go_at_call 28; refine HN.out.mono ?_; rintro e w' ⟨rfl, rfl⟩)
  go_ret
  exact ⟨rfl, rfl⟩
theorem len_tb (h : TbAt w T a c B l) : Calls Try.prog 12 #[.pointer (some ⟨T, 0, none⟩)] w fun e w' => e = .returned (.int .i64 l.length) ∧ w = w' := by
  have c0 := h.c0
  have HN := Lib.hid (none_tb h)
  clear h
  go_enter Try.func12, Try.ntmps12
  go_wp2_with (go_at_call 28; refine HN.out.mono ?_; rintro e w' ⟨rfl, rfl⟩)
  go_ret
  exact ⟨rfl, rfl⟩
theorem find_nil (x : ByteArray) (w : World) : Calls Try.prog 9 #[.pointer none, .string x] w fun e w' => e = .returned (.tuple #[.int .i64 0, .bool false]) ∧ w = w' := by
  go_enter Try.func9, Try.ntmps9
  go_wp2_with (go_at_call 28; refine (none_nil _).mono ?_; rintro e w' ⟨rfl, rfl⟩)
  refine bodyPost_ret (v := .tuple #[_, _]) (by simp [results, Try.results9, go_sem]) rfl ⟨rfl, rfl⟩
theorem find_zero (T : Nat) (v : Value) (x : ByteArray) (w : World) (h : w.cell? ⟨T, 1, none⟩ = some (.map none)) : Calls Try.prog 9 #[.pointer (some ⟨T, 0, none⟩), .string x] w fun e w' => e = .returned (.tuple #[.int .i64 0, .bool false]) ∧ w = w' := by
  have HN := Lib.hid (none_zero T v w h)
  clear h
  go_enter Try.func9, Try.ntmps9
  go_wp2_with (go_at_call 28; refine HN.out.mono ?_; rintro e w' ⟨rfl, rfl⟩)
  refine bodyPost_ret (v := .tuple #[_, _]) (by simp [results, Try.results9, go_sem]) rfl ⟨rfl, rfl⟩
theorem find_tb (h : TbAt w T a c B l) (x : ByteArray) (hx : x.size ≤ maxLen) : Calls Try.prog 9 #[.pointer (some ⟨T, 0, none⟩), .string x] w fun e w' => e = .returned (.tuple #[.int .i64 (((plc l x).getD 0 : Nat) : Int), .bool (plc l x).isSome]) ∧ w = w' := by
  have c1 := h.c1
  have HN := Lib.hid (none_tb h)
  have hk := h.map.look x hx
  clear h
  generalize (((plc l x).getD 0 : Nat) : Int) = n at *
  generalize (plc l x).isSome = b at *
  go_enter Try.func9, Try.ntmps9
  go_wp2_with (go_at_call 28; refine HN.out.mono ?_; rintro e w' ⟨rfl, rfl⟩)
  refine bodyPost_ret (v := .tuple #[_, _]) (by simp [results, Try.results9, go_sem]) rfl ⟨rfl, rfl⟩
/-- what Text tells -/
def txtT (l : List ByteArray) (n : Int) : ByteArray × Bool := if 0 ≤ n ∧ n < l.length then (l.getD n.toNat ⟨#[]⟩, true) else (⟨#[]⟩, false)
theorem text_nil (n : Int) (w : World) : Calls Try.prog 10 #[.pointer none, .int .i64 n] w fun e w' => e = .returned (.tuple #[.string ⟨#[]⟩, .bool false]) ∧ w = w' := by
  go_enter Try.func10, Try.ntmps10
  go_wp2_with (go_at_call 28; refine (none_nil _).mono ?_; rintro e w' ⟨rfl, rfl⟩)
  refine bodyPost_ret (v := .tuple #[_, _]) (by simp [results, Try.results10, go_sem]) rfl ⟨rfl, rfl⟩
theorem text_zero (T : Nat) (v : Value) (n : Int) (w : World) (h : w.cell? ⟨T, 1, none⟩ = some (.map none)) : Calls Try.prog 10 #[.pointer (some ⟨T, 0, none⟩), .int .i64 n] w fun e w' => e = .returned (.tuple #[.string ⟨#[]⟩, .bool false]) ∧ w = w' := by
  have HN := Lib.hid (none_zero T v w h)
  clear h
  go_enter Try.func10, Try.ntmps10
  go_wp2_with (go_at_call 28; refine HN.out.mono ?_; rintro e w' ⟨rfl, rfl⟩)
  refine bodyPost_ret (v := .tuple #[_, _]) (by simp [results, Try.results10, go_sem]) rfl ⟨rfl, rfl⟩
theorem text_tb (h : TbAt w T a c B l) (n : Int) : Calls Try.prog 10 #[.pointer (some ⟨T, 0, none⟩), .int .i64 n] w fun e w' => e = .returned (.tuple #[.string (txtT l n).1, .bool (txtT l n).2]) ∧ w = w' := by
  have c0 := h.c0
  have HN := Lib.hid (none_tb h)
  have hrd := h.own.rd
  clear h
  unfold txtT
  by_cases h0 : n < 0
  · rw [if_neg (by omega)]
    clear hrd
    go_enter Try.func10, Try.ntmps10
    go_wp2_with (go_at_call 28; refine HN.out.mono ?_; rintro e w' ⟨rfl, rfl⟩)
    refine bodyPost_ret (v := .tuple #[_, _]) (by simp [results, Try.results10, go_sem]) rfl ⟨rfl, rfl⟩
  · by_cases h1 : n < l.length
    · obtain ⟨k, rfl⟩ : ∃ k : Nat, n = k := ⟨n.toNat, by omega⟩
      have hk : k < l.length := by omega
      obtain ⟨b, o, rfl, x0⟩ := str_cell hrd hk
      rw [if_pos ⟨by omega, h1⟩]
      have e : l.getD (k : Int).toNat ⟨#[]⟩ = l[k] := by simp [hk]
      rw [e]
      clear hrd e
      generalize l[k] = x at *
      go_enter Try.func10, Try.ntmps10
      go_wp2_with (go_at_call 28; refine HN.out.mono ?_; rintro e w' ⟨rfl, rfl⟩)
      refine bodyPost_ret (v := .tuple #[_, _]) (by simp [results, Try.results10, go_sem]) rfl ⟨rfl, rfl⟩
    · rw [if_neg (by omega)]
      clear hrd
      go_enter Try.func10, Try.ntmps10
      go_wp2_with (go_at_call 28; refine HN.out.mono ?_; rintro e w' ⟨rfl, rfl⟩)
      refine bodyPost_ret (v := .tuple #[_, _]) (by simp [results, Try.results10, go_sem]) rfl ⟨rfl, rfl⟩
theorem rlen_nil (w : World) : Calls Try.prog 27 #[.pointer none] w fun e w' => e = .returned (.int .i64 0) ∧ w = w' := by
  go_enter Try.func27, Try.ntmps27
  go_wp2_with fail
  go_ret
  exact ⟨rfl, rfl⟩
theorem rlen_tb (h : RbAt w M a c l) : Calls Try.prog 27 #[.pointer (some ⟨M, 0, none⟩)] w fun e w' => e = .returned (.int .i64 l.length) ∧ w = w' := by
  have c0 := h.c0
  clear h
  go_enter Try.func27, Try.ntmps27
  go_wp2_with fail
  go_ret
  exact ⟨rfl, rfl⟩
theorem rtext_nil (n : Int) (w : World) : Calls Try.prog 22 #[.pointer none, .int .i64 n] w fun e w' => e = .returned (.tuple #[.string ⟨#[]⟩, .bool false]) ∧ w = w' := by
  go_enter Try.func22, Try.ntmps22
  go_wp2_with fail
  refine bodyPost_ret (v := .tuple #[_, _]) (by simp [results, Try.results22, go_sem]) rfl ⟨rfl, rfl⟩
theorem rtext_tb (h : RbAt w M a c l) (n : Int) : Calls Try.prog 22 #[.pointer (some ⟨M, 0, none⟩), .int .i64 n] w fun e w' => e = .returned (.tuple #[.string (txtT l n).1, .bool (txtT l n).2]) ∧ w = w' := by
  have c0 := h.c0
  have hrd := h.own.rd
  clear h
  unfold txtT
  by_cases h0 : n < 0
  · rw [if_neg (by omega)]
    clear hrd
    go_enter Try.func22, Try.ntmps22
    go_wp2_with fail
    refine bodyPost_ret (v := .tuple #[_, _]) (by simp [results, Try.results22, go_sem]) rfl ⟨rfl, rfl⟩
  · by_cases h1 : n < l.length
    · obtain ⟨k, rfl⟩ : ∃ k : Nat, n = k := ⟨n.toNat, by omega⟩
      have hk : k < l.length := by omega
      obtain ⟨b, o, rfl, x0⟩ := str_cell hrd hk
      rw [if_pos ⟨by omega, h1⟩]
      have e : l.getD (k : Int).toNat ⟨#[]⟩ = l[k] := by simp [hk]
      rw [e]
      clear hrd e
      generalize l[k] = x at *
      go_enter Try.func22, Try.ntmps22
      go_wp2_with fail
      refine bodyPost_ret (v := .tuple #[_, _]) (by simp [results, Try.results22, go_sem]) rfl ⟨rfl, rfl⟩
    · rw [if_neg (by omega)]
      clear hrd
      go_enter Try.func22, Try.ntmps22
      go_wp2_with fail
      refine bodyPost_ret (v := .tuple #[_, _]) (by simp [results, Try.results22, go_sem]) rfl ⟨rfl, rfl⟩
theorem rfind_nil (x : ByteArray) (w : World) : Calls Try.prog 21 #[.pointer none, .string x] w fun e w' => e = .returned (.tuple #[.int .i64 0, .bool false]) ∧ w = w' := by
  go_enter Try.func21, Try.ntmps21
  go_wp2_with fail
  refine bodyPost_ret (v := .tuple #[_, _]) (by simp [results, Try.results21, go_sem]) rfl ⟨rfl, rfl⟩
theorem plc_at : ∀ {l : List ByteArray} {x : ByteArray} {k : Nat}, (∀ i, i < k → l[i]? ≠ some x) → l[k]? = some x → plc l x = some k
  | [], x, k, _, h => by simp at h
  | y :: l, x, 0, _, h => by
    have e : y = x := by simpa using h
    show (if y = x then some 0 else _) = _
    rw [if_pos e]
  | y :: l, x, k + 1, hn, h => by
    have e : ¬ y = x := fun e => hn 0 (by omega) (by rw [e]; rfl)
    show (if y = x then some 0 else (plc l x).map (· + 1)) = _
    rw [if_neg e, plc_at (l := l) (k := k) (fun i hi hh => hn (i + 1) (by omega) hh) h]
    rfl
theorem plc_no {l : List ByteArray} {x : ByteArray} (h : ∀ i, i < l.length → l[i]? ≠ some x) : plc l x = none := by
  cases hp : plc l x with
  | none => rfl
  | some n => exact absurd (plc_get hp) (h n (plc_lt hp))
theorem rfind_tb (h : RbAt w M a c l) (x : ByteArray) (hl : l.length < 2 ^ 60) : Calls Try.prog 21 #[.pointer (some ⟨M, 0, none⟩), .string x] w fun e w' => e = .returned (.tuple #[.int .i64 (((plc l x).getD 0 : Nat) : Int), .bool (plc l x).isSome]) ∧ w = w' := by
  have c0 := h.c0
  have HRD := Lib.hid h.own.rd
  clear h
  go_enter Try.func21, Try.ntmps21
  go_wp2_with fail
  go_loopw [6] (fun iv wr => ∃ k : Nat, iv = .int .i64 k ∧ k ≤ l.length ∧ Hid (∀ i, i < k → l[i]? ≠ some x) ∧ wr = w) (fun iv _ => l.length - (intOf iv).toNat)
  case atStart => exact ⟨0, rfl, Nat.zero_le _, Lib.hid (fun i hi => by omega), rfl⟩
  case round =>
    obtain ⟨k, rfl, hk, hno, rfl⟩ := hrel
    by_cases hlt : k < l.length
    · obtain ⟨b, o, rfl, x0⟩ := str_cell HRD.out hlt
      have hg : l[k]? = some l[k] := List.getElem?_eq_getElem hlt
      obtain ⟨s, hs⟩ : ∃ s, s = l[k] := ⟨_, rfl⟩
      rw [← hs] at x0 hg
      have HG := Lib.hid hg
      clear hs hg
      by_cases heq : s = x
      · subst heq
        have hp := plc_at hno.out HG.out
        have HP := Lib.hid hp
        clear hp
        go_wp2_with fail
        rw [HP.out]
        refine bodyPost_ret (v := .tuple #[_, _]) (by simp [results, Try.results21, go_sem]) rfl ⟨rfl, rfl⟩
      · have hne : (s.toList == x.toList) = false := by rw [baEq]; simpa using heq
        have HNE := Lib.hid heq
        clear heq
        go_wp2_with fail
        go_roundw
        case rel => exact ⟨k + 1, by go_num, hlt, Lib.hid (fun i hi hh => by
          rcases Nat.lt_succ_iff_lt_or_eq.1 hi with h | rfl
          · exact hno.out i h hh
          · rw [HG.out] at hh; exact HNE.out (Option.some.inj hh)), trivial⟩
        case measure => simp [intOf]; omega
    · obtain rfl : k = l.length := by omega
      have HP := Lib.hid (plc_no hno.out)
      go_wp2_with fail
      rw [HP.out]
      refine bodyPost_ret (v := .tuple #[_, _]) (by simp [results, Try.results21, go_sem]) rfl ⟨rfl, rfl⟩
theorem new_any (w : World) : Calls Try.prog 6 #[] w fun e w' => ∃ T B, e = .returned (.pointer (some ⟨T, 0, none⟩)) ∧ TbAt w' T none 0 B [] ∧ w.heap.size ≤ T ∧ w.heap.size ≤ B ∧ Mod (fun _ => False) w w' := by
  have hmm := @run_makeMap Try.prog
  go_enter Try.func6, Try.ntmps6
  go_wp2_with fail
  go_ret
  refine ⟨w.heap.size + 1, w.heap.size, by simp, ⟨by simpa using heap_alloc_new (w.alloc (.map #[] 0)) _, Mine.Own.nil _ _ _, (TMap.made w).mod ((Mod.refl (fun _ => False) _).alloc _) id, by simp, by simp, by omega⟩, by omega, Nat.le_refl _, ((Mod.refl _ w).alloc _).alloc _⟩
end
end Go.Proofs.Ytcmgeiohcgngeaa
