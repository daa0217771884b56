/-
  round, walked.
-/
import Derived.Test.YtcmgeiohcgngeaaSymD4
namespace Go.Proofs.Ytcmgeiohcgngeaa
open Go Go.RowKit Go.Mine Go.Maps
set_option linter.unusedVariables false
set_option maxHeartbeats 4000000
set_option maxRecDepth 100000

theorem round_any (n : Int) (k : Nat) (hk : 0 < k) (hk2 : k < 2 ^ 40) (w : World) : Calls Try.prog 5 #[.int .i64 n, .int .i64 (k : Nat)] w fun e w' => (∃ r : Nat, r < k ∧ e = .returned (.int .i64 (r : Nat))) ∧ w = w' := by
  have h0 : ¬ (k : Int) = 0 := by omega
  have h1 := Int.tmod_lt_of_pos n (b := k) (by omega)
  have h2 := Int.lt_tmod_of_pos n (b := k) (by omega)
  by_cases hn : Int.tmod n k < 0
  · go_enter Try.func5, Try.ntmps5
    go_wp2_with fail
    go_ret
    exact ⟨⟨(n.tmod k + k).toNat, by omega, by rw [Int.toNat_of_nonneg (by omega)]; rfl⟩, rfl⟩
  · go_enter Try.func5, Try.ntmps5
    go_wp2_with fail
    go_ret
    exact ⟨⟨(n.tmod k).toNat, by omega, by rw [Int.toNat_of_nonneg (by omega)]; rfl⟩, rfl⟩
/-- an operation of a script -/
structure OpS where
  kd : Int
  wh : Int
  N : Int
  ta : Option Addr
  tc : Nat
  xs : List ByteArray
def opC (o : OpS) : List Value := [.int .i64 o.kd, .int .i64 o.wh, .slice o.ta o.xs.length o.tc, .int .i64 o.N]
def opsC (os : List OpS) : List Value := os.flatMap opC
theorem opsC_get : ∀ (os : List OpS) (k j : Nat) (hk : k < os.length) (hj : j < 4), (opsC os)[k * 4 + j]? = (opC os[k])[j]?
  | [], k, j, hk, hj => by simp at hk
  | o :: os, 0, j, hk, hj => by
    show (opC o ++ opsC os)[0 * 4 + j]? = _
    rw [List.getElem?_append_left (by show 0 * 4 + j < 4; omega)]
    simp
  | o :: os, k + 1, j, hk, hj => by
    show (opC o ++ opsC os)[(k + 1) * 4 + j]? = _
    rw [List.getElem?_append_right (by show 4 ≤ _; omega)]
    have e : (k + 1) * 4 + j - (opC o).length = k * 4 + j := by show (k + 1) * 4 + j - 4 = _; omega
    rw [e, opsC_get os k j (by simpa using hk) hj]
    simp
def costO (os : List OpS) : Nat := (os.map fun o => 1 + o.xs.length).sum
theorem costO_snoc (os : List OpS) (o : OpS) : costO (os ++ [o]) = costO os + 1 + o.xs.length := by simp [costO]; omega
theorem op_cell {w : World} {a : Option Addr} {os : List OpS} (h : Rd w a (opsC os)) {k : Nat} (hk : k < os.length) : ∃ b o, a = some ⟨b, o, none⟩ ∧ w.cell? ⟨b, o + k * 4, none⟩ = some (.int .i64 os[k].kd) ∧ w.cell? ⟨b, o + k * 4 + 1, none⟩ = some (.int .i64 os[k].wh) ∧ w.cell? ⟨b, o + k * 4 + 2, none⟩ = some (.slice os[k].ta os[k].xs.length os[k].tc) ∧ w.cell? ⟨b, o + k * 4 + 3, none⟩ = some (.int .i64 os[k].N) := by
  obtain ⟨b, o, rfl, h0⟩ := h (k * 4 + 0) (.int .i64 os[k].kd) (by rw [opsC_get os k 0 hk (by omega)]; rfl)
  obtain ⟨b1, o1, e1, h1⟩ := h (k * 4 + 1) (.int .i64 os[k].wh) (by rw [opsC_get os k 1 hk (by omega)]; rfl)
  obtain ⟨b2, o2, e2, h2⟩ := h (k * 4 + 2) (.slice os[k].ta os[k].xs.length os[k].tc) (by rw [opsC_get os k 2 hk (by omega)]; rfl)
  obtain ⟨b3, o3, e3, h3⟩ := h (k * 4 + 3) (.int .i64 os[k].N) (by rw [opsC_get os k 3 hk (by omega)]; rfl)
  cases e1; cases e2; cases e3
  exact ⟨b, o, rfl, by simpa [Nat.add_assoc] using h0, by simpa [Nat.add_assoc] using h1, by simpa [Nat.add_assoc] using h2, by simpa [Nat.add_assoc] using h3⟩
theorem much_any (a : Option Addr) (c : Nat) (os : List OpS) (w : World) (hR : Rd w a (opsC os)) (hn : os.length < 2 ^ 40) (hs : ∀ o ∈ os, o.xs.length < 2 ^ 40) :
    Calls Try.prog 4 #[.slice a os.length c] w fun e w' => (∃ b, e = .returned (.bool b) ∧ (b = false → costO os ≤ 5000)) ∧ w = w' := by
  have HR := Lib.hid hR; have HS := Lib.hid hs
  clear hR hs
  go_enter Try.func4, Try.ntmps4
  go_wp2_with fail
  go_loopw [3, 4] (fun nv iv wr => ∃ k n : Nat, iv = .int .i64 k ∧ k ≤ os.length ∧ nv = .int .i64 n ∧ n < 2 ^ 41 ∧ Hid (n = costO (os.take k)) ∧ wr = w) (fun _ iv _ => os.length - (intOf iv).toNat)
  case atStart => exact ⟨0, 0, rfl, Nat.zero_le _, rfl, by omega, Lib.hid rfl, rfl⟩
  case round =>
    obtain ⟨k, n, rfl, hk, rfl, hnn, hc, hww⟩ := hrel
    obtain rfl : w = wr := hww.symm
    clear hww
    by_cases hlt : k < os.length
    · by_cases hle : n ≤ 5000
      · obtain ⟨b, o, rfl, -, -, x2, -⟩ := op_cell HR.out hlt
        have hl := HS.out _ (List.getElem_mem hlt)
        have htk : os.take (k + 1) = os.take k ++ [os[k]] := List.take_succ_eq_append_getElem hlt
        obtain ⟨p, hp⟩ : ∃ p, p = os[k] := ⟨_, rfl⟩
        rw [← hp] at x2 hl htk
        have HTK := Lib.hid htk
        clear hp htk
        go_wp2_with fail
        go_roundw
        case rel => exact ⟨k + 1, n + 1 + p.xs.length, by go_num, hlt, by go_num, by omega, Lib.hid (by rw [HTK.out, costO_snoc, ← hc.out]), trivial⟩
        case measure => simp [intOf]; omega
      · go_wp2_with fail
        go_ret
        exact ⟨⟨true, (by simp <;> omega), fun h => by cases h⟩, rfl⟩
    · obtain rfl : k = os.length := by omega
      have HC : Hid (n = costO os) := by rw [List.take_length] at hc; exact hc
      clear hc
      by_cases hle : n ≤ 5000
      all_goals
        go_wp2_with fail
        go_ret
      · exact ⟨⟨false, (by simp <;> omega), fun _ => by rw [← HC.out]; exact hle⟩, rfl⟩
      · exact ⟨⟨true, (by simp <;> omega), fun h => by cases h⟩, rfl⟩
end Go.Proofs.Ytcmgeiohcgngeaa
