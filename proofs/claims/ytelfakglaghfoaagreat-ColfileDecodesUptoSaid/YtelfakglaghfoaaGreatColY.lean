/-
  slices.Repeat on one number: walked.
-/
import Derived.Test.YtelfakglaghfoaaGreatColW
import Derived.Test.YtelfakglaghfoaaGreatInsK
import Derived.Test.YtelfakglaghfoaaGreatLayMu
import Derived.Test.YtelfakglaghfoaaGreatColK
namespace Go.Proofs.YtelfakglaghfoaaGreat
open Go Go.RowKit Go.Mine
set_option linter.unusedVariables false
set_option maxHeartbeats 4000000
set_option maxRecDepth 100000

theorem mk32 (n : Nat) (hn : n ≤ 2 ^ 40) (w : World) : (Instr.makeSlice 68 (.int .i64 (n : Nat)) (.int .i64 (n : Nat))).run Tryz.prog w = .ok (.slice (some ⟨w.heap.size, 0, none⟩) n n) (w.alloc (.cells (Array.replicate n (.int .u32 0)) 45)) :=
  mkZ (z := .int .u32 0) (bytes := 4) (by kernel_rfl) (by kernel_rfl) rfl n (by omega) (by omega) w
theorem mul1_any (n : Nat) (hn : n < 2 ^ 64) (w : World) : Calls Tryz.prog 126 #[.int .u64 1, .int .u64 n] w fun e w' => e = .returned (.tuple #[.int .u64 0, .int .u64 n]) ∧ w = w' := by
  have h := Any.bits_Mul lays212 1 n (by omega) hn w
  rw [show 1 * n / 18446744073709551616 = 0 by omega, show 1 * n % 18446744073709551616 = n by omega] at h
  exact h.mono fun e w' h => ⟨h.1, h.2.symm⟩
/-- m copies of q, then zeros -/
def rpX (q n m : Nat) : List Value := u32s (List.replicate m q ++ List.replicate (n - m) 0)
theorem rpX_len (q : Nat) {n m : Nat} (h : m ≤ n) : (rpX q n m).length = n := by simp [rpX]; omega
theorem rpX_step {q n m k : Nat} (h : m + k ≤ n) : (rpX q n m).take (m * 1) ++ u32s (List.replicate k q) ++ (rpX q n m).drop ((m + k) * 1) = rpX q n (m + k) := by
  have h1 : (rpX q n m).take (m * 1) = u32s (List.replicate m q) := by
    rw [Nat.mul_one, rpX, u32s, ← List.map_take, List.take_append_of_le_length (by simp), List.take_of_length_le (by simp)]; rfl
  have h2 : (rpX q n m).drop ((m + k) * 1) = u32s (List.replicate (n - (m + k)) 0) := by
    rw [Nat.mul_one, rpX, u32s, ← List.map_drop, List.drop_append, List.drop_eq_nil_of_le (by simp), List.nil_append, List.length_replicate, List.drop_replicate]
    rw [show n - m - (m + k - m) = n - (m + k) by omega]; rfl
  rw [h1, h2, rpX, ← List.replicate_append_replicate]
  simp [u32s]
theorem rpX_zero (q n : Nat) : rpX q n 0 = ((Array.replicate n (Value.int .u32 0)).toList.take (n * 1)) := by
  rw [Nat.mul_one, rpX, Array.toList_replicate, List.take_of_length_le (by simp)]
  simp [u32s]
theorem rpX_all (q n : Nat) : rpX q n n = u32s (List.replicate n q) := by simp [rpX]
theorem rpX_pre (q : Nat) {n m k : Nat} (h : k ≤ m) : (rpX q n m).take k = u32s (List.replicate k q) := by
  rw [rpX, u32s, ← List.map_take, List.take_append_of_le_length (by simp; omega), List.take_replicate, Nat.min_eq_left h]; rfl
theorem u32s_one (l : List Nat) : ∀ u ∈ u32s l, u.oneCell' = true := by
  intro u hu
  obtain ⟨n, _, rfl⟩ := List.mem_map.1 hu
  rfl
theorem repeat_any (a : Addr) (c0 q n : Nat) (w : World) (hr : Rd w (some a) [.int .u32 (q : Nat)]) (hn : n ≤ 65536) :
    Calls Tryz.prog 117 #[.slice (some a) 1 c0, .int .i64 n] w (RPost (List.replicate n q) w) := by
  have HR := Lib.hid hr
  clear hr
  have hneg : ¬ ((n : Int) < 0) := by omega
  by_cases h0 : n = 0
  · subst h0
    have hmk : (Instr.makeSlice 68 (.int .i64 0) (.int .i64 0)).run Tryz.prog w = .ok (.slice (some ⟨w.heap.size, 0, none⟩) 0 0) (w.alloc (.cells (Array.replicate 0 (.int .u32 0)) 45)) := mk32 0 (by omega) w
    have hcp : ∀ W : World, (Builtin.copy_ #[68, 68] 3 #[.slice (some ⟨w.heap.size, 0, none⟩) 0 0, .slice (some a) 1 c0]).run Tryz.prog W = .ok (.int .i64 0) W := fun W => by
      have h1 := run_copy_K (P := Tryz.prog) W 68 68 3 45 1 w.heap.size 0 0 0 a 1 c0 0 [] (by kernel_rfl) (by kernel_rfl) rfl rfl (fun j v h => by simp at h) (fun j h => by simp at h) (fun j h => by simp at h) (fun v h => by cases h)
      exact h1
    go_enter Tryz.func117, Tryz.ntmps117
    go_wp2_with (first
      | (go_at_call 126; refine (mul1_any 0 (by omega) _).mono ?_; rintro e w' ⟨rfl, rfl⟩))
    go_loopw [8] (fun mv wr => mv = .int .i64 0 ∧ Hid (wr = w.alloc (.cells (Array.replicate 0 (.int .u32 0)) 45))) (fun _ _ => 0)
    case atStart => exact ⟨rfl, Lib.hid rfl⟩
    case round =>
      obtain ⟨rfl, hW⟩ := hrel
      go_wp2_with fail
      go_ret
      rw [hW.out]
      refine ⟨some ⟨w.heap.size, 0, none⟩, 0, rfl, ⟨?_, fun b hb => ?_, (Mod.refl _ w).alloc _⟩⟩
      · have h1 := Mine.Own.made w 45 1 (Array.replicate 0 (.int .u32 0)) 0 0 (Nat.le_refl _) (by unfold maxLen; omega) (by simp)
        simpa [u32s] using h1
      · have : w.heap.size = b := by simpa [blk] using hb
        omega
  · have hmk := mk32 n (by omega) w
    have hO0 : Mine.Own (w.alloc (.cells (Array.replicate n (.int .u32 0)) 45)) 45 1 (some ⟨w.heap.size, 0, none⟩) n n (rpX q n 0) := by
      rw [rpX_zero]; exact Mine.Own.made w 45 1 _ n n (Nat.le_refl _) (by unfold maxLen; omega) (by simp)
    have HO0 := Lib.hid hO0
    have HM0 : Hid (Mod (fun _ => False) w (w.alloc (.cells (Array.replicate n (.int .u32 0)) 45))) := Lib.hid ((Mod.refl _ w).alloc _)
    have HR0 := Lib.hid (HR.out.mod HM0.out (fun _ _ => id))
    clear hO0
    go_enter Tryz.func117, Tryz.ntmps117
    go_wp2_with (first
      | (go_at_call 126; refine (mul1_any n (by omega) _).mono ?_; rintro e w' ⟨rfl, rfl⟩)
      | (refine wpL_copyK (lo := 0) (m := 1) (us := u32s (List.replicate 1 q)) rfl (.tmp 31) (.tmp 32) rfl tiU32 rfl rfl HO0.out (by omega) rfl (Nat.min_eq_left (by omega)).symm (by omega) HR0.out (u32s_one _) ?_; intro w1 hO1 hM1; rw [rpX_step (by omega)] at hO1; have HO1 := Lib.hid hO1; have HM1 := Lib.hid (HM0.out.step hM1 (fun b hb e => by omega)); clear hO1 hM1))
    obtain ⟨B, hB⟩ : ∃ B, B = w.heap.size := ⟨_, rfl⟩
    rw [← hB] at HO1 ⊢
    have HB := Lib.hid hB
    clear hB hmk HO0 HM0 HR0
    go_loopw [8] (fun mv wr => ∃ m : Nat, mv = .int .i64 m ∧ 1 ≤ m ∧ m ≤ n ∧ Hid (Mine.Own wr 45 1 (some ⟨B, 0, none⟩) n n (rpX q n m)) ∧ Hid (Mod (fun _ => False) w wr)) (fun mv _ => n - (intOf mv).toNat)
    case atStart => exact ⟨1, rfl, by omega, by omega, HO1, HM1⟩
    case round =>
      obtain ⟨m, rfl, hm1, hmn, hO, hM⟩ := hrel
      by_cases hlt : m < n
      · have hs1 : ∀ W : World, (Instr.slice 68 (.slice (some ⟨B, 0, none⟩) n n) (some (.int .i64 m)) none none).run Tryz.prog W = .ok (.slice (some ⟨B, m * 1, none⟩) (n - m) (n - m)) W := lo_slice tiU32 B n n m (by omega) (by omega)
        have hs2 : ∀ W : World, (Instr.slice 68 (.slice (some ⟨B, 0, none⟩) n n) none (some (.int .i64 m)) none).run Tryz.prog W = .ok (.slice (some ⟨B, 0, none⟩) m n) W := hi_slice tiU32 (some ⟨B, 0, none⟩) n n m (by omega)
        obtain ⟨k, hk⟩ : ∃ k, k = Nat.min m (n - m) := ⟨_, rfl⟩
        have hk0 : 0 < k := by rw [hk]; simp only [Nat.min_def]; split <;> omega
        have hkm : k ≤ m := by rw [hk]; exact Nat.min_le_left _ _
        have hkn : m + k ≤ n := by have : k ≤ n - m := by rw [hk]; exact Nat.min_le_right _ _
                                   omega
        have HK := Lib.hid hk
        have HRP : Hid (Rd wr.drew (some ⟨B, 0, none⟩) (u32s (List.replicate k q))) := Lib.hid (by
          rw [← rpX_pre q (n := n) (m := m) hkm]
          exact hO.out.drew.rd.take k)
        clear hk
        rename World => wz
        go_wp2_with fail
        refine wp_region_ord (fun w' => True) [(0, 0), (0, 1), (0, 2), (0, 3), (0, 4), (0, 5), (0, 6), (3, 7), (0, 8), (0, 9)] (by kernel_rfl) (by kernel_rfl) ?_
        go_wp2_with (first
          | (refine ord_drop rfl rfl (fun K hK => ?_)
             refine wpO_copyK (lo := m) (m := k) (us := u32s (List.replicate k q)) (dl := n - m) (dc := n - m) (.tmp 41) (.tmp 44) rfl tiU32 (by rw [Nat.mul_one]; rfl) rfl hO.out.drew hkn (by simp) HK.out hk0 HRP.out (u32s_one _) ?_
             intro w3 hO3 hM3
             rw [rpX_step hkn] at hO3
             refine hK _ _ ?_; clear hK K
             have HO3 := Lib.hid hO3; have HM3 := Lib.hid ((hM.out.drew).step hM3 (fun b hb e => by have := HB.out; omega)); clear hO3 hM3)
          | (refine ord_pure rfl rfl rfl (fun K hK => ?_); go_big_quiet_op; refine hK _ ?_; clear hK K)
                                                                | (refine ord_skip rfl rfl ?_; simp only [Act.put, List.setIfInBounds_toArray, List.set_cons_zero, List.set_cons_succ])
                                                                | (refine ord_held rfl rfl rfl (trivial) (fun K hK => ?_); apply Exists.intro; refine ⟨fun w' hs => ?_, hK _ ?_⟩; (revert hs; dsimp only; (try simp only [and_imp]); intros; go_simp; rfl); clear hK K)
                                                                | (refine ord_keep rfl rfl (trivial) (fun K hK => ?_))
                                                                | (refine ord_drop rfl rfl (fun K hK => ?_))
                                                                | (refine ord_nil ?_))
        go_roundw
        case rel => exact ⟨m + k, by go_num, by omega, by omega, HO3, HM3⟩
        case measure => simp [intOf]; omega
      · obtain rfl : m = n := by omega
        go_wp2_with fail
        go_ret
        refine ⟨some ⟨B, 0, none⟩, m, by simp, ⟨?_, fun b hb => ?_, hM.out⟩⟩
        · have h1 := hO.out
          rw [rpX_all] at h1
          simpa using h1
        · have := HB.out
          have : B = b := by simpa [blk] using hb
          omega
end Go.Proofs.YtelfakglaghfoaaGreat
