/-
  sibylref09.number: a number's digits.
-/
import Derived.Test.YteecbbnpgmceiaaGreatDoorNorm
import Derived.Test.YteecbbnpgmceiaaGreatDoorOrdG
namespace Go.Proofs.YteecbbnpgmceiaaGreatDoor
open Go Go.RowKit Go.Mine
set_option linter.unusedVariables false
set_option maxHeartbeats 4000000
set_option maxRecDepth 100000

theorem conv_one (z : Int) (x : UInt8) (hz : z = (x.toNat : Int)) (w : World) : (convert 34 9 (.slice (some ⟨w.heap.size, 0, none⟩) 1 1)).run Tryz.prog (w.alloc (.cells #[.int .u8 z] 5)) = .ok (.string ⟨#[x]⟩) (w.alloc (.cells #[.int .u8 z] 5)) := by
  subst hz
  exact run_bytes_str (P := Tryz.prog) (src := 34) (dst := 9) (e := 5) (a := some ⟨w.heap.size, 0, none⟩) (l := [x]) (by kernel_rfl) (by kernel_rfl) (by kernel_rfl) 1 (Rd.new w _ _)
theorem conv_at (x : UInt8) (g : Nat) (w : World) (h : w.heap[g]? = some (.cells #[.int .u8 x.toNat] 5 (0, 0))) : (convert 34 9 (.slice (some ⟨g, 0, none⟩) 1 1)).run Tryz.prog w = .ok (.string ⟨#[x]⟩) w := by
  refine run_bytes_str (P := Tryz.prog) (src := 34) (dst := 9) (e := 5) (a := some ⟨g, 0, none⟩) (l := [x]) (by kernel_rfl) (by kernel_rfl) (by kernel_rfl) 1 ?_
  intro i u hi
  refine ⟨_, _, rfl, ?_⟩
  rw [cell_of_row w g _ _ 5 (0, 0) h]
  cases i with
  | zero => simpa [bts] using hi
  | succ i => simp [bts] at hi
theorem decDigits_le (n : Nat) : (Lib.decDigits n).length ≤ n + 1 := by
  induction n using Nat.strongRecOn with
  | ind n ih =>
    rw [Lib.decDigits]
    split
    · simp
    · have := ih (n / 10) (by omega)
      simp only [List.length_append, List.length_cons, List.length_nil]
      omega
theorem str_add (s t : ByteArray) (h : s.size + t.size ≤ 9223372036854775807) (w : World) : (binOp .add 9 (.string s) (.string t)).run Tryz.prog w = .ok (.string (s ++ t)) w := by
  go_simp
theorem ba_cat (l m : List UInt8) : (⟨l.toArray⟩ : ByteArray) ++ ⟨m.toArray⟩ = ⟨(l ++ m).toArray⟩ := by
  apply ByteArray.ext
  rw [ByteArray.data_append]
  simp
theorem ret_string {s t : ByteArray} (h : s = t) : Ending.returned (.string s) = .returned (.string t) := by rw [h]
theorem number_any (n : Nat) : ∀ (w : World), n < 2 ^ 40 → Calls Tryz.prog 143 #[.int .i64 n] w fun e w' => e = .returned (.string ⟨(Lib.decDigits n).toArray⟩) ∧ Mod (fun _ => False) w w' := by
  induction n using Nat.strongRecOn with
  | ind n ih =>
  intro w hn
  by_cases h : n < 10
  · have hd : Lib.decDigits n = [UInt8.ofNat (48 + n)] := by rw [Lib.decDigits, dif_pos h]
    rw [hd]
    obtain ⟨x, hx, hxn⟩ : ∃ x : UInt8, UInt8.ofNat (48 + n) = x ∧ x.toNat = 48 + n := ⟨_, rfl, by rw [UInt8.toNat_ofNat']; omega⟩
    rw [hx]
    have hcv := conv_one (48 + (n : Int)) x (by omega)
    clear hx hd
    have hM : Mod (fun _ => False) w (w.alloc (.cells #[.int .u8 (48 + (n : Int))] 5)) := (Mod.refl _ w).alloc _
    go_enter Tryz.func143, Tryz.ntmps143
    go_wp2_with fail
    go_ret
    exact ⟨rfl, hM⟩
  · have hd : Lib.decDigits n = Lib.decDigits (n / 10) ++ [UInt8.ofNat (48 + n % 10)] := by rw [Lib.decDigits, dif_neg h]
    rw [hd]
    obtain ⟨x, hx, hxn⟩ : ∃ x : UInt8, UInt8.ofNat (48 + n % 10) = x ∧ x.toNat = 48 + n % 10 := ⟨_, rfl, by rw [UInt8.toNat_ofNat']; omega⟩
    rw [hx]
    clear hx hd
    have HI : Hid (∀ (z : Int) (w : World), z = ((n / 10 : Nat) : Int) → Calls Tryz.prog 143 #[.int .i64 z] w fun e w' => e = .returned (.string ⟨(Lib.decDigits (n / 10)).toArray⟩) ∧ Mod (fun _ => False) w w') := Lib.hid (fun z w hz => by rw [hz]; exact ih (n / 10) (by omega) w (by omega))
    clear ih
    have hle := decDigits_le (n / 10)
    generalize Lib.decDigits (n / 10) = l at *
    have hno : ¬ 9223372036854775807 < l.length + 1 := by omega
    clear hle
    have HX := Lib.hid hxn; clear hxn
    go_enter Tryz.func143, Tryz.ntmps143
    go_wp2_with fail
    have hE : ((n : Int) / 10) = ((n / 10 : Nat) : Int) := by omega
    have hF : (48 + (n : Int) % 10) = (x.toNat : Int) := by have := HX.out; omega
    have HE := Lib.hid hE; have HF := Lib.hid hF; clear hE hF
    refine wp_region_ord2 (fun w' => w'.heap[w.heap.size]? = some (.cells #[.int .u8 x.toNat] 5 (0, 0))) 2 7 [(0, 0), (0, 1), (0, 3), (0, 4), (0, 5), (0, 6), (3, 2), (3, 7), (3, 8), (0, 9), (0, 10)] [(0, 0), (0, 1), (0, 3), (0, 4), (0, 5), (0, 6), (3, 7), (1, 8), (2, 2), (0, 9), (0, 10)] (by kernel_rfl) (by kernel_rfl) (by kernel_rfl) (by kernel_rfl) ?_ ?_
    · go_wp2_with (first
        | (refine ord_pure rfl rfl rfl (fun K hK => ?_); go_big_quiet_op; refine hK _ ?_; clear hK K)
                                                                | (refine ord_skip rfl rfl ?_; simp only [Act.put, List.setIfInBounds_toArray, List.set_cons_zero, List.set_cons_succ])
                                                                | (refine ord_held rfl rfl rfl (trivial) (fun K hK => ?_); apply Exists.intro; refine ⟨fun w' hs => ?_, hK _ ?_⟩; (revert hs; dsimp only; (try simp only [and_imp]); intros; go_simp; rfl); clear hK K)
                                                                | (refine ord_keep rfl rfl (trivial) (fun K hK => ?_))
                                                                | (refine ord_drop rfl rfl (fun K hK => ?_))
                                                                | (refine ord_nil ?_)
        | fail)
      refine (HI.out _ _ HE.out).mono ?_
      rintro e w2 ⟨rfl, hM2⟩
      rw [HF.out]
      have hcv := conv_one x.toNat x rfl w2
      have hM : Mod (fun _ => False) w (w2.alloc (.cells #[.int .u8 x.toNat] 5)) := ((Mod.refl (fun _ => False) w).drew.trans hM2).alloc _
      have HM := Lib.hid hM; clear hM hM2
      go_wp2_with (first
        | (refine ord_pure rfl rfl rfl (fun K hK => ?_); go_big_quiet_op; refine hK _ ?_; clear hK K)
                                                                | (refine ord_skip rfl rfl ?_; simp only [Act.put, List.setIfInBounds_toArray, List.set_cons_zero, List.set_cons_succ])
                                                                | (refine ord_held rfl rfl rfl (trivial) (fun K hK => ?_); apply Exists.intro; refine ⟨fun w' hs => ?_, hK _ ?_⟩; (revert hs; dsimp only; (try simp only [and_imp]); intros; go_simp; rfl); clear hK K)
                                                                | (refine ord_keep rfl rfl (trivial) (fun K hK => ?_))
                                                                | (refine ord_drop rfl rfl (fun K hK => ?_))
                                                                | (refine ord_nil ?_)
        | fail)
      go_ret
      exact ⟨ret_string (ba_cat l [x]), HM.out⟩
    · go_wp2_with (first
        | (refine ord_pure rfl rfl rfl (fun K hK => ?_); go_big_quiet_op; refine hK _ ?_; clear hK K)
                                                                | (refine ord_skip rfl rfl ?_; simp only [Act.put, List.setIfInBounds_toArray, List.set_cons_zero, List.set_cons_succ])
                                                                | (refine ord_held rfl rfl rfl (trivial) (fun K hK => ?_); apply Exists.intro; refine ⟨fun w' hs => ?_, hK _ ?_⟩; (revert hs; dsimp only; (try simp only [and_imp]); intros; go_simp; rfl); clear hK K)
                                                                | (refine ord_keep rfl rfl (trivial) (fun K hK => ?_))
                                                                | (refine ord_drop rfl rfl (fun K hK => ?_))
                                                                | (refine ord_nil ?_)
        | fail)
      have hb : (w.alloc (.cells #[.int .u8 (48 + (n : Int) % 10)] 5)).drew.heap[w.heap.size]? = some (.cells #[.int .u8 x.toNat] 5 (0, 0)) := by
        rw [HF.out]; exact heap_alloc_new w _
      have hcv := conv_at x w.heap.size
      go_wp2_with (first
        | (refine ord_pure rfl rfl rfl (fun K hK => ?_); go_big_quiet_op; refine hK _ ?_; clear hK K)
                                                                | (refine ord_skip rfl rfl ?_; simp only [Act.put, List.setIfInBounds_toArray, List.set_cons_zero, List.set_cons_succ])
                                                                | (refine ord_held rfl rfl rfl (hb) (fun K hK => ?_); apply Exists.intro; refine ⟨fun w' hs => ?_, hK _ ?_⟩; (revert hs; dsimp only; (try simp only [and_imp]); intros; go_simp; rfl); clear hK K)
                                                                | (refine ord_keep rfl rfl (hb) (fun K hK => ?_))
                                                                | (refine ord_drop rfl rfl (fun K hK => ?_))
                                                                | (refine ord_nil ?_)
        | fail)
      refine (HI.out _ _ HE.out).mono ?_
      rintro e w2 ⟨rfl, hM2⟩
      have hM : Mod (fun _ => False) w w2 := (((Mod.refl (fun _ => False) w).alloc _).drew).trans hM2
      have HM := Lib.hid hM
      refine hK _ _ (hM2.at hb id) ?_; clear hK K hM hM2
      go_wp2_with (first
        | (refine ord_pure rfl rfl rfl (fun K hK => ?_); go_big_quiet_op; refine hK _ ?_; clear hK K)
                                                                | (refine ord_skip rfl rfl ?_; simp only [Act.put, List.setIfInBounds_toArray, List.set_cons_zero, List.set_cons_succ])
                                                                | (refine ord_held rfl rfl rfl (trivial) (fun K hK => ?_); apply Exists.intro; refine ⟨fun w' hs => ?_, hK _ ?_⟩; (revert hs; dsimp only; (try simp only [and_imp]); intros; go_simp; rfl); clear hK K)
                                                                | (refine ord_keep rfl rfl (trivial) (fun K hK => ?_))
                                                                | (refine ord_drop rfl rfl (fun K hK => ?_))
                                                                | (refine ord_nil ?_)
        | fail)
      go_ret
      exact ⟨ret_string (ba_cat l [x]), HM.out⟩
end Go.Proofs.YteecbbnpgmceiaaGreatDoor
