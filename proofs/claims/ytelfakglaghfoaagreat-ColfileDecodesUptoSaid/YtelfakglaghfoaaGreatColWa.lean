/-
  The program's way of a column: walked.
-/
import Derived.Test.YtelfakglaghfoaaGreatColV
namespace Go.Proofs.YtelfakglaghfoaaGreat
open Go Go.RowKit Go.Mine
set_option linter.unusedVariables false
set_option maxHeartbeats 4000000
set_option maxRecDepth 100000

def i64s (l : List Nat) : List Value := l.map fun n => .int .i64 (n : Nat)
theorem i64_cell {w : World} {a : Option Addr} {c : List Nat} (h : Rd w a (i64s c)) {i : Nat} (hi : i < c.length) : ∃ b o, a = some ⟨b, o, none⟩ ∧ w.cell? ⟨b, o + i, none⟩ = some (.int .i64 (c[i] : Nat)) := by
  obtain ⟨b, o, e, h1⟩ := h i (.int .i64 (c[i] : Nat)) (by unfold i64s; rw [List.getElem?_map, List.getElem?_eq_getElem hi]; rfl)
  exact ⟨b, o, e, h1⟩
def minN : List Nat → Nat
  | [] => 0
  | x :: r => r.foldl min x
theorem minN_snoc {l : List Nat} (h : l ≠ []) (x : Nat) : minN (l ++ [x]) = min (minN l) x := by
  cases l with
  | nil => exact absurd rfl h
  | cons y r => rw [List.cons_append, minN, minN, List.foldl_append]; rfl
theorem min_any (a : Option Addr) (d : Nat) (c : List Nat) (w : World) (hr : Rd w a (i64s c)) (h0 : 0 < c.length) (hn : c.length < 2 ^ 32) :
    Calls Tryz.prog 122 #[.slice a c.length d] w fun e w' => e = .returned (.int .i64 (minN c : Nat)) ∧ w = w' := by
  have HR := Lib.hid hr
  obtain ⟨b, o, rfl, x0⟩ := i64_cell hr h0
  rw [Nat.add_zero] at x0
  have HM1 : Hid (minN (c.take 1) = c[0]) := Lib.hid (by
    rw [List.take_succ_eq_append_getElem h0, List.take_zero]
    rfl)
  clear hr
  generalize c[0] = y at *
  have hl1 : 1 ≤ c.length := h0
  go_enter Tryz.func122, Tryz.ntmps122
  go_wp2_with fail
  clear x0
  go_loopw [3, 4] (fun mv iv wr => ∃ k : Nat, iv = .int .i64 k ∧ 1 ≤ k ∧ k ≤ c.length ∧ mv = .int .i64 (minN (c.take k) : Nat) ∧ wr = w) (fun _ iv _ => c.length - (intOf iv).toNat)
  case atStart => exact ⟨1, rfl, by omega, h0, by rw [HM1.out], rfl⟩
  case round =>
    obtain ⟨k, rfl, hk1, hk, rfl, hww⟩ := hrel
    obtain rfl : w = wr := hww.symm
    clear hww
    by_cases hlt : k < c.length
    · obtain ⟨b', o', e', x0⟩ := i64_cell HR.out hlt
      cases e'
      have HTK : Hid (minN (c.take (k + 1)) = min (minN (c.take k)) c[k]) := Lib.hid (by rw [List.take_succ_eq_append_getElem hlt, minN_snoc (fun h => by
        have h2 : (c.take k).length = 0 := by rw [h]; rfl
        rw [List.length_take] at h2
        omega)])
      generalize minN (c.take k) = m at *
      generalize c[k] = x at *
      go_wp2_with fail
      go_roundw
      case rel => exact ⟨k + 1, by go_num, by omega, hlt, by rw [HTK.out, show ((min m x : Nat) : Int) = min (m : Int) x by omega], trivial⟩
      case measure => simp [intOf]; omega
    · obtain rfl : k = c.length := by omega
      rw [List.take_length]
      go_wp2_with fail
      go_ret
      exact ⟨rfl, rfl⟩
theorem index_any (a : Option Addr) (d : Nat) (c : List Nat) (x : Nat) (w : World) (hr : Rd w a (i64s c)) (hx : x ∈ c) (hn : c.length < 2 ^ 32) :
    Calls Tryz.prog 121 #[.slice a c.length d, .int .i64 x] w fun e w' => e = .returned (.int .i64 (c.idxOf x : Nat)) ∧ w = w' := by
  have HR := Lib.hid hr
  have hle := Lib.hid (List.idxOf_lt_length_of_mem hx)
  have HX := Lib.hid hx
  clear hr hx
  go_enter Tryz.func121, Tryz.ntmps121
  go_wp2_with fail
  go_loopw [5, 8] (fun _ iv wr => ∃ k : Nat, iv = .int .i64 k ∧ k ≤ c.idxOf x ∧ wr = w) (fun _ iv _ => c.length - (intOf iv).toNat)
  case atStart => exact ⟨0, rfl, Nat.zero_le _, rfl⟩
  case round =>
    obtain ⟨k, rfl, hk, hww⟩ := hrel
    obtain rfl : w = wr := hww.symm
    clear hww
    have hlt : k < c.length := by have := hle.out; omega
    obtain ⟨b', o', rfl, x0⟩ := i64_cell HR.out hlt
    by_cases he : k = c.idxOf x
    · have hc : c[k] = x := by subst he; exact List.getElem_idxOf hlt
      rw [hc] at x0
      have HE := Lib.hid he
      clear hc he
      go_wp2_with fail
      go_ret
      rw [HE.out]
      exact ⟨rfl, rfl⟩
    · have hc : x ≠ c[k] := by
        intro e
        have h1 : ¬ k < c.findIdx (· == x) := fun h => by
          have := List.not_of_lt_findIdx h
          rw [← e] at this
          simp at this
        have h2 : c.findIdx (· == x) = c.idxOf x := rfl
        omega
      have hcb : ((x : Int) == (c[k] : Int)) = false := by simp; omega
      have HK : Hid (k + 1 ≤ c.idxOf x) := Lib.hid (by omega)
      clear hc he
      generalize c[k] = y at *
      go_wp2_with fail
      go_roundw
      case rel => exact ⟨k + 1, by go_num, HK.out, trivial⟩
      case measure => simp [intOf]; omega
theorem way_min (c : List Nat) : wayN c = (szs c).idxOf (minN (szs c)) + 1 ∧ minN (szs c) ∈ szs c := by
  unfold wayN szs
  generalize (layP c).length = a
  generalize (layD c).length = b
  generalize (layR c).length = p
  generalize (layK c).length = q
  have hkey : ∀ X : Nat, [a, b, p, q].idxOf X = if a = X then 0 else if b = X then 1 else if p = X then 2 else if q = X then 3 else 4 := by
    intro X
    simp only [List.idxOf_cons, List.idxOf_nil]
    by_cases h1 : a = X
    · simp [h1]
    · rw [if_neg h1, beq_eq_false_iff_ne.2 h1]
      by_cases h2 : b = X
      · simp [h2]
      · rw [if_neg h2, beq_eq_false_iff_ne.2 h2]
        by_cases h3 : p = X
        · simp [h3]
        · rw [if_neg h3, beq_eq_false_iff_ne.2 h3]
          by_cases h4 : q = X
          · simp [h4]
          · rw [if_neg h4, beq_eq_false_iff_ne.2 h4]; rfl
  have hmin : minN [a, b, p, q] = min (min (min a b) p) q := rfl
  rw [hkey, hmin]
  simp only [List.tail, best, List.mem_cons]
  refine ⟨?_, by omega⟩
  by_cases h1 : b < a
  · by_cases h2 : p < b
    · by_cases h3 : q < p
      · simp [h1, h2, h3]; repeat' split
        all_goals omega
      · simp [h1, h2, h3]; repeat' split
        all_goals omega
    · by_cases h3 : q < b
      · simp [h1, h2, h3]; repeat' split
        all_goals omega
      · simp [h1, h2, h3]; repeat' split
        all_goals omega
  · by_cases h2 : p < a
    · by_cases h3 : q < p
      · simp [h1, h2, h3]; repeat' split
        all_goals omega
      · simp [h1, h2, h3]; repeat' split
        all_goals omega
    · by_cases h3 : q < a
      · simp [h1, h2, h3]; repeat' split
        all_goals omega
      · simp [h1, h2, h3]; repeat' split
        all_goals omega
theorem wayP_any (a : Option Addr) (d : Nat) (c : List Nat) (w : World) (hr : Rd w a (u32s c)) (hu : U32 c) (hn : c.length ≤ 65536) (hab : ∀ b, blk a = some b → b < w.heap.size) :
    Calls Tryz.prog 103 #[.slice a c.length d] w fun e w' => e = .returned (.int .i64 (wayN c : Nat)) ∧ Mod (fun _ => False) w w' := by
  have HS := Lib.hid (sizesP_any a d c w hr hu hn hab)
  have HW := Lib.hid (way_min c)
  clear hr hu hab
  have hf : fourI (szs c) = .agg #[.int .i64 ((layP c).length : Nat), .int .i64 ((layD c).length : Nat), .int .i64 ((layR c).length : Nat), .int .i64 ((layK c).length : Nat)] := rfl
  rw [hf] at HS
  have hs4 : szs c = [(layP c).length, (layD c).length, (layR c).length, (layK c).length] := rfl
  rw [hs4] at HW
  clear hf hs4
  generalize (layP c).length = n1 at *
  generalize (layD c).length = n2 at *
  generalize (layR c).length = n3 at *
  generalize (layK c).length = n4 at *
  go_enter Tryz.func103, Tryz.ntmps103
  go_wp2_with fail
  refine HS.out.mono ?_
  rintro e w1 ⟨rfl, hm⟩
  go_wp2_with fail
  have HR : Hid (∀ W, Mod (fun _ => False) (w1.alloc (.cells #[.int .i64 (n1 : Nat), .int .i64 (n2 : Nat), .int .i64 (n3 : Nat), .int .i64 (n4 : Nat)] 129)) W → Rd W (some ⟨w1.heap.size, 0, none⟩) (i64s [n1, n2, n3, n4])) := Lib.hid (fun W m =>
    (Rd.news w1 (i64s [n1, n2, n3, n4]) 129).mod m (fun _ _ => id))
  have HM := Lib.hid (hm.alloc (.cells #[.int .i64 (n1 : Nat), .int .i64 (n2 : Nat), .int .i64 (n3 : Nat), .int .i64 (n4 : Nat)] 129))
  generalize w1.alloc (.cells #[.int .i64 (n1 : Nat), .int .i64 (n2 : Nat), .int .i64 (n3 : Nat), .int .i64 (n4 : Nat)] 129) = w2 at *
  generalize w1.heap.size = B at *
  clear hm
  refine wp_region_ord (fun w' => True) [(0, 0), (0, 1), (3, 2), (3, 3), (0, 4), (0, 5)] (by kernel_rfl) (by kernel_rfl) ?_
  go_wp2_with (first
    | (refine ord_pure rfl rfl rfl (fun K hK => ?_); go_big_quiet_op; refine hK _ ?_; clear hK K)
                                                                | (refine ord_skip rfl rfl ?_; simp only [Act.put, List.setIfInBounds_toArray, List.set_cons_zero, List.set_cons_succ])
                                                                | (refine ord_held rfl rfl rfl (trivial) (fun K hK => ?_); apply Exists.intro; refine ⟨fun w' hs => ?_, hK _ ?_⟩; (revert hs; dsimp only; (try simp only [and_imp]); intros; go_simp; rfl); clear hK K)
                                                                | (refine ord_keep rfl rfl (trivial) (fun K hK => ?_))
                                                                | (refine ord_drop rfl rfl (fun K hK => ?_))
                                                                | (refine ord_nil ?_))
  refine (min_any (some ⟨B, 0, none⟩) 4 [n1, n2, n3, n4] _ (HR.out _ (Mod.refl _ w2).drew) (by simp) (by simp)).mono ?_
  rintro e w3 ⟨rfl, hw3⟩
  have HM3 : Hid (Mod (fun _ => False) w2 w3) := Lib.hid (by rw [← hw3]; exact (Mod.refl _ w2).drew)
  clear hw3
  refine hK _ _ ?_
  clear hK K
  go_wp2_with (first
    | (refine ord_pure rfl rfl rfl (fun K hK => ?_); go_big_quiet_op; refine hK _ ?_; clear hK K)
                                                                | (refine ord_skip rfl rfl ?_; simp only [Act.put, List.setIfInBounds_toArray, List.set_cons_zero, List.set_cons_succ])
                                                                | (refine ord_held rfl rfl rfl (trivial) (fun K hK => ?_); apply Exists.intro; refine ⟨fun w' hs => ?_, hK _ ?_⟩; (revert hs; dsimp only; (try simp only [and_imp]); intros; go_simp; rfl); clear hK K)
                                                                | (refine ord_keep rfl rfl (trivial) (fun K hK => ?_))
                                                                | (refine ord_drop rfl rfl (fun K hK => ?_))
                                                                | (refine ord_nil ?_))
  refine (index_any (some ⟨B, 0, none⟩) 4 [n1, n2, n3, n4] _ _ (HR.out _ HM3.out) HW.out.2 (by simp)).mono ?_
  rintro e w4 ⟨rfl, hw4⟩
  obtain rfl : w3 = w4 := hw4
  refine hK _ _ ?_
  clear hK K
  have HE : Hid (((wayN c : Nat) : Int) = 1 + (([n1, n2, n3, n4].idxOf (minN [n1, n2, n3, n4]) : Nat) : Int)) := Lib.hid (by
    rw [HW.out.1]; omega)
  have hi4 : [n1, n2, n3, n4].idxOf (minN [n1, n2, n3, n4]) < 4 := List.idxOf_lt_length_of_mem HW.out.2
  generalize [n1, n2, n3, n4].idxOf (minN [n1, n2, n3, n4]) = ix at *
  go_wp2_with (first
    | (refine ord_pure rfl rfl rfl (fun K hK => ?_); go_big_quiet_op; refine hK _ ?_; clear hK K)
                                                                | (refine ord_skip rfl rfl ?_; simp only [Act.put, List.setIfInBounds_toArray, List.set_cons_zero, List.set_cons_succ])
                                                                | (refine ord_held rfl rfl rfl (trivial) (fun K hK => ?_); apply Exists.intro; refine ⟨fun w' hs => ?_, hK _ ?_⟩; (revert hs; dsimp only; (try simp only [and_imp]); intros; go_simp; rfl); clear hK K)
                                                                | (refine ord_keep rfl rfl (trivial) (fun K hK => ?_))
                                                                | (refine ord_drop rfl rfl (fun K hK => ?_))
                                                                | (refine ord_nil ?_))
  go_ret
  rw [HE.out]
  exact ⟨rfl, HM.out.trans HM3.out⟩
end Go.Proofs.YtelfakglaghfoaaGreat
