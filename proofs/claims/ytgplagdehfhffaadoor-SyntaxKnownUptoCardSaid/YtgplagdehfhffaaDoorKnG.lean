/-
  SyntaxKnown's helpers: many, fails, and the long texts.
-/
import Derived.Test.YtgplagdehfhffaaDoorStrP
import Derived.Test.YtgplagdehfhffaaDoorKnownL
namespace Go.Proofs.YtgplagdehfhffaaDoor
open Go Go.RowKit Go.Mine
set_option linter.unusedVariables false
set_option maxHeartbeats 4000000
set_option maxRecDepth 100000

def manyB (s : ByteArray) : Nat → ByteArray
  | 0 => ⟨#[]⟩
  | n + 1 => manyB s n ++ s
theorem many_size (s : ByteArray) : ∀ n, (manyB s n).size = n * s.size
  | 0 => by rw [Nat.zero_mul]; rfl
  | n + 1 => by rw [manyB, ByteArray.size_append, many_size s n, Nat.add_mul]; omega
theorem many_any (s : ByteArray) (n : Nat) (z : Int) (w : World) (hs : s.size ≤ 10) (hz : z = (n : Int) := by rfl) (hn : n < 2 ^ 30 := by decide) : Calls Tryd.prog 71 #[.string s, .int .i64 z] w fun e w' => e = .returned (.string (manyB s n)) ∧ w = w' := by
  subst hz
  obtain ⟨M, hM⟩ : ∃ M, M = manyB s := ⟨_, rfl⟩
  have HS : Hid (∀ k, M k ++ s = M (k + 1)) := by rw [hM]; exact fun _ => rfl
  have H0 : Hid ((⟨#[]⟩ : ByteArray) = M 0) := by rw [hM]; exact rfl
  have HZ : Hid (∀ k, (M k).size = k * s.size) := by rw [hM]; exact many_size s
  rw [← hM]
  clear hM
  go_enter Tryd.func71, Tryd.ntmps71
  go_wp2_with fail
  go_loopw [5, 6] (fun ov iv wr => ∃ k : Nat, ov = .string (M k) ∧ iv = .int .i64 k ∧ k ≤ n ∧ Hid (w = wr)) (fun _ iv _ => n - (intOf iv).toNat)
  case atStart => exact ⟨0, by rw [H0.out], rfl, Nat.zero_le _, Lib.hid rfl⟩
  case round =>
    obtain ⟨k, rfl, rfl, hk, hw⟩ := hrel
    by_cases hlt : k < n
    · have hs1 := HS.out k
      have hs2 : ¬ 9223372036854775807 < (M k).size + s.size := by
        have := HZ.out k
        have h2 : k * s.size ≤ k * 10 := Nat.mul_le_mul_left _ hs
        omega
      go_wp2_with fail
      go_roundw
      case rel => exact ⟨k + 1, rfl, by go_num, hlt, hw⟩
      case measure => simp [intOf]; omega
    · obtain rfl : k = n := by omega
      go_wp2_with fail
      go_ret
      exact ⟨rfl, hw.out⟩
theorem fails_any (s : ByteArray) (x : Nat × Nat) (e p : Int) (w : World) (hT : Lib.Utf8Tabs 1 2 w) (hs : s.size < 2 ^ 30) (h : progS s = .error x) (he : e = (x.1 : Int) := by rfl) (hp : p = (x.2 : Int) := by rfl) :
    Calls Tryd.prog 34 #[.string s, .int .i64 e, .int .i64 p] w fun e w' => e = .returned (.bool true) ∧ Mod (fun _ => False) w w' := by
  subst he hp
  have hP := fun a c W => parse_says s.data.toList s.size (by rw [Lib.size_eq]) hs a c W
  rw [ba_mk, h] at hP
  unfold PSay at hP
  simp only [noOf, atOf, valOf] at hP
  have HP := Lib.hid hP
  have HT := Lib.hid hT
  have HN := Lib.hid law8Num_any
  clear hP hT
  have hcv := run_bytes_of_string (P := Tryd.prog) w 9 22 5 s (by kernel_rfl) (by kernel_rfl) (by kernel_rfl)
  obtain ⟨k1, k2⟩ := x
  simp only at HP ⊢
  go_enter Tryd.func34, Tryd.ntmps34
  go_wp2_with fail
  clear hcv
  generalize grownCap w s.size 0 5 = cap
  have hm0 : Mod (fun _ => False) w (w.alloc (.cells (bytesRow s cap) 5 ((bytesRow s cap).size, (bytesRow s cap).size + 1))).drew := ((Mod.refl _ w).alloc _).drew
  refine (HP.out _ _ _ (rd_bytesRow s w cap _ _) (tabs_mod HT.out hm0)).mono ?_
  rintro e w1 ⟨s1, rfl, hs1, hM⟩
  obtain ⟨a1, c1, _, rfl, _⟩ := hs1
  simp only [List.length_nil]
  have HM := Lib.hid ((hm0.trans hM).alloc (.cells #[.slice a1 0 c1] 26))
  clear hM hm0
  go_wp2_with (first
    | (go_at_call 14; refine (HN.out _ _).mono ?_; rintro e w' ⟨rfl, rfl⟩))
  go_ret
  exact ⟨rfl, HM.out⟩
/-- the long texts -/
theorem ba_ext {s t : ByteArray} (h : s.data.toList = t.data.toList) : s = t := by
  apply ByteArray.ext; exact Array.ext' h
theorem ba_list (x y : ByteArray) : (x ++ y).data.toList = x.data.toList ++ y.data.toList := by rw [ByteArray.data_append, Array.toList_append]
theorem dL_snoc : ∀ (n : Nat) (t : List UInt8), dL (n + 1) t = dL n (112 :: 46 :: t)
  | 0, t => rfl
  | n + 1, t => by
    rw [dL, dL_snoc n t]; rfl
theorem dL_app (u : List UInt8) : ∀ (n : Nat) (t : List UInt8), dL n t ++ u = dL n (t ++ u)
  | 0, t => rfl
  | n + 1, t => by rw [dL, dL, List.cons_append, List.cons_append, dL_app u n t]
theorem many_d : ∀ n, (manyB ⟨#[112, 46]⟩ n).data.toList = dL n []
  | 0 => rfl
  | n + 1 => by
    rw [manyB, ba_list, many_d n, dL_app, dL_snoc]; rfl
theorem many_a : ∀ n, (manyB ⟨#[97]⟩ n).data.toList = List.replicate n (97 : UInt8)
  | 0 => rfl
  | n + 1 => by
    rw [manyB, ba_list, many_a n, List.replicate_succ']
end Go.Proofs.YtgplagdehfhffaaDoor
/-
  SyntaxKnown's parts and limits, walked.
-/
namespace Go.Proofs.YtgplagdehfhffaaDoor
open Go Go.RowKit Go.Mine
set_option linter.unusedVariables false
set_option maxHeartbeats 4000000
set_option maxRecDepth 100000

def kp1 : List UInt8 := [112, 46, 32, 113, 46]
def kp2 : List UInt8 := [112, 40, 97, 41, 46]
def kp3 : List UInt8 := [112, 40, 97, 41]
theorem kp1_r : ruleS ⟨kp1.toArray⟩ = .error (80, 3) := by kernel_rfl
theorem kp2_r : atomS ⟨kp2.toArray⟩ = .error (80, 4) := by kernel_rfl
theorem kp3_r : atomS ⟨kp3.toArray⟩ = .ok ⟨⟨#[112]⟩, [⟨3, ⟨#[97]⟩⟩]⟩ := by kernel_rfl
theorem kp4_r : atomS ⟨([] : List UInt8).toArray⟩ = .error (80, 0) := by kernel_rfl
theorem parts_true (w : World) (hT : Lib.Utf8Tabs 1 2 w) : Calls Tryd.prog 36 #[] w fun e w' => e = .returned (.bool true) ∧ Mod (fun _ => False) w w' := by
  have HP1 := Lib.hid (fun a c W => parseRule_says kp1 5 rfl (by omega) a c W)
  have HP2 := Lib.hid (fun a c W => parseAtom_says kp2 5 rfl (by omega) a c W)
  have HP3 := Lib.hid (fun a c W => parseAtom_says kp3 4 rfl (by omega) a c W)
  have HP4 := Lib.hid (fun a c W => parseAtom_says [] 0 rfl (by omega) a c W)
  rw [kp1_r] at HP1
  rw [kp2_r] at HP2
  rw [kp3_r] at HP3
  rw [kp4_r] at HP4
  unfold RSay at HP1
  unfold ASay at HP2 HP3 HP4
  unfold rmV at HP1
  simp only [noOf, atOf, valOf, rm0] at HP1
  simp only [noOf, atOf, valOf, am0] at HP2 HP3 HP4
  have HT := Lib.hid hT
  have HN := Lib.hid law8Num_any
  clear hT
  have kc := fun (w : World) (C : Array Value) (n c : Nat) => Lib.run_convert_bytes_const (P := Tryd.prog) w 22 5 C n c Tryd.underlying22 Tryd.underlying5
  have kc2 := fun (w : World) (o : Obj) (C : Array Value) (n c : Nat) => (show (convert 22 22 (.slice (some ⟨w.heap.size + 1, 0, none⟩) n c)).run Tryd.prog ((w.alloc o).alloc (.cells C 5)) = .ok (.slice (some ⟨w.heap.size + 1, 0, none⟩) n c) ((w.alloc o).alloc (.cells C 5 (C.size, C.size + 1))) by
    have h := kc (w.alloc o) C n c
    rwa [World.size_alloc] at h)
  go_enter Tryd.func36, Tryd.ntmps36
  go_wp2_with fail
  have hm0 : Mod (fun _ => False) w w := Mod.refl _ w
  refine (HP1.out _ _ _ (Rd.newsZ w (bts kp1) _ (_, _)) (tabs_mod HT.out (hm0.alloc _))).mono ?_
  rintro e w1 ⟨s1, b1, rfl, hs, hl, hM⟩
  obtain ⟨a1, c1, rfl, _⟩ := hs
  obtain ⟨a2, c2, _, rfl, _⟩ := hl
  have hm1 := ((hm0.alloc _).trans hM)
  have HM1 := Lib.hid hm1
  clear hM hm0 hm1
  go_wp2_with fail
  refine (HP2.out _ _ _ (Rd.newsZ (g := w1.heap.size + 1) (w1.alloc _) (bts kp2) _ (_, _)) (tabs_mod HT.out ((HM1.out.alloc _).alloc _))).mono ?_
  rintro e w2 ⟨s2, rfl, hs, hM⟩
  obtain ⟨a3, c3, rfl, _⟩ := hs
  have HM2 := Lib.hid (((HM1.out.alloc _).alloc _).trans hM)
  clear hM HM1
  go_wp2_with fail
  refine (HP3.out _ _ _ (Rd.newsZ (g := w2.heap.size + 1) (w2.alloc _) (bts kp3) _ (_, _)) (tabs_mod HT.out ((HM2.out.alloc _).alloc _))).mono ?_
  rintro e w3 ⟨s3, rfl, hs, hM⟩
  have HS3 := Lib.hid hs
  obtain ⟨a4, c4, rfl, _⟩ := hs
  have HM3 := Lib.hid (((HM2.out.alloc _).alloc _).trans hM)
  have HB3 := Lib.hid (heap_alloc_new w3 (.cells #[.string ⟨#[112]⟩, .slice a4 1 c4] 37))
  have HS3' := Lib.hid (HS3.out.mod0 ((Mod.refl (fun _ => False) w3).alloc (.cells #[.string ⟨#[112]⟩, .slice a4 1 c4] 37)))
  clear hM HM2 HS3
  go_wp2_with fail
  refine (HP4.out none 0 _ (Rd.nil _ _) (tabs_mod HT.out (HM3.out.alloc _))).mono ?_
  rintro e w4 ⟨s4, rfl, hs, hM⟩
  obtain ⟨a5, c5, rfl, _⟩ := hs
  obtain ⟨w5, hw5⟩ : ∃ w5, w5 = w4.alloc (.cells #[.string emptyB, .slice a5 0 c5] 37) := ⟨_, rfl⟩
  have hm4 : Mod (fun _ => False) (w3.alloc (.cells #[.string ⟨#[112]⟩, .slice a4 1 c4] 37)) w5 := by rw [hw5]; exact hM.alloc _
  have hb3 := hm4.at HB3.out id
  have HM5 := Lib.hid ((HM3.out.alloc _).trans hm4)
  have HS5 := Lib.hid (HS3'.out.mod0 hm4)
  have q0 := cell_at (j := 0) hb3 rfl
  have q1 := cell_at (j := 1) hb3 rfl
  have HQ0 := Lib.hid q0; have HQ1 := Lib.hid q1
  clear hM hm4 HB3 HM3 HS3' hb3 q0 q1
  clear kc kc2
  go_wp2_with fail
  rw [← hw5]
  clear hw5
  have HSS : Hid (∀ W, Mod (fun _ => False) w5 W → W.cell? ⟨w3.heap.size, 0, none⟩ = some (.string ⟨#[112]⟩) ∧ W.cell? ⟨w3.heap.size, 1, none⟩ = some (.slice a4 1 c4)) := fun W m => ⟨m.cell HQ0.out id, m.cell HQ1.out id⟩
  refine wp_region_ord (fun W => W.cell? ⟨w3.heap.size, 0, none⟩ = some (.string ⟨#[112]⟩) ∧ W.cell? ⟨w3.heap.size, 1, none⟩ = some (.slice a4 1 c4)) [(0, 0), (3, 1), (0, 2), (0, 3), (0, 4), (0, 5), (0, 6), (0, 7), (0, 8), (3, 9), (0, 10), (0, 11), (0, 12), (0, 13), (0, 14), (0, 15), (0, 16), (0, 17), (3, 18), (0, 19), (0, 20), (0, 21), (1, 22), (2, 23), (2, 24), (0, 25), (3, 26), (0, 27), (0, 28), (0, 29), (3, 30), (0, 31), (0, 32), (0, 33)] (by kernel_rfl) (by kernel_rfl) ?_
  have HC := Lib.hid ((Mod.refl (fun _ => False) w5).drew)
  go_wp2_with (first
    | (refine ord_pure rfl rfl rfl (fun K hK => ?_); go_big_quiet_op; refine hK _ ?_; clear hK K)
                        | (refine ord_skip rfl rfl ?_; simp only [Act.put, List.setIfInBounds_toArray, List.set_cons_zero, List.set_cons_succ])
                        | (refine ord_held rfl rfl rfl (HSS.out _ HC.out) (fun K hK => ?_); apply Exists.intro; refine ⟨fun w' hs => ?_, hK _ ?_⟩; (revert hs; dsimp only; (try simp only [and_imp]); intros; go_simp; rfl); clear hK K)
                        | (refine ord_keep rfl rfl (HSS.out _ HC.out) (fun K hK => ?_))
                        | (refine ord_drop rfl rfl (fun K hK => ?_))
                        | (refine ord_nil ?_)
    | (go_at_call 14; refine (HN.out _ _).mono ?_; rintro e w' ⟨rfl, rfl⟩))
  refine (c_any _ _).mono ?_
  rintro e w6 ⟨rfl, hM6⟩
  have HC6 := Lib.hid (HC.out.trans hM6); clear hM6 HC
  refine hK _ _ (HSS.out _ HC6.out) ?_; clear hK K
  go_wp2_with (first
    | (refine ord_pure rfl rfl rfl (fun K hK => ?_); go_big_quiet_op; refine hK _ ?_; clear hK K)
                        | (refine ord_skip rfl rfl ?_; simp only [Act.put, List.setIfInBounds_toArray, List.set_cons_zero, List.set_cons_succ])
                        | (refine ord_held rfl rfl rfl (HSS.out _ HC6.out) (fun K hK => ?_); apply Exists.intro; refine ⟨fun w' hs => ?_, hK _ ?_⟩; (revert hs; dsimp only; (try simp only [and_imp]); intros; go_simp; rfl); clear hK K)
                        | (refine ord_keep rfl rfl (HSS.out _ HC6.out) (fun K hK => ?_))
                        | (refine ord_drop rfl rfl (fun K hK => ?_))
                        | (refine ord_nil ?_))
  have hmD : Mod (fun _ => False) w6 (w6.alloc (.cells #[.int .i64 3, .string ⟨#[97]⟩] 60)) := (Mod.refl _ w6).alloc _
  have HC7 := Lib.hid (HC6.out.trans hmD)
  have HQ := Lib.hid (law8Atom_true ⟨#[112]⟩ [⟨3, ⟨#[97]⟩⟩] (.slice a4 1 c4) (.slice (some ⟨w6.heap.size, 0, none⟩) 1 1) (w6.alloc (.cells #[.int .i64 3, .string ⟨#[97]⟩] 60)) (HS5.out.mod0 HC7.out) ⟨_, _, rfl, Rd.news w6 (tmsC [⟨3, ⟨#[97]⟩⟩]) _⟩ (by decide))
  refine hK _ _ (HSS.out _ HC7.out) ?_; clear hK K hmD
  go_wp2_with (first
    | (refine ord_pure rfl rfl rfl (fun K hK => ?_); go_big_quiet_op; refine hK _ ?_; clear hK K)
                        | (refine ord_skip rfl rfl ?_; simp only [Act.put, List.setIfInBounds_toArray, List.set_cons_zero, List.set_cons_succ])
                        | (refine ord_held rfl rfl rfl (HSS.out _ HC7.out) (fun K hK => ?_); apply Exists.intro; refine ⟨fun w' hs => ?_, hK _ ?_⟩; (revert hs; dsimp only; (try simp only [and_imp]); intros; go_simp; rfl); clear hK K)
                        | (refine ord_keep rfl rfl (HSS.out _ HC7.out) (fun K hK => ?_))
                        | (refine ord_drop rfl rfl (fun K hK => ?_))
                        | (refine ord_nil ?_))
  refine HQ.out.mono ?_
  rintro e w8 ⟨rfl, hM8⟩
  have HC8 := Lib.hid (HC7.out.trans hM8); clear hM8 HQ
  go_wp2_with (first
    | (refine ord_pure rfl rfl rfl (fun K hK => ?_); go_big_quiet_op; refine hK _ ?_; clear hK K)
                        | (refine ord_skip rfl rfl ?_; simp only [Act.put, List.setIfInBounds_toArray, List.set_cons_zero, List.set_cons_succ])
                        | (refine ord_held rfl rfl rfl (HSS.out _ HC8.out) (fun K hK => ?_); apply Exists.intro; refine ⟨fun w' hs => ?_, hK _ ?_⟩; (revert hs; dsimp only; (try simp only [and_imp]); intros; go_simp; rfl); clear hK K)
                        | (refine ord_keep rfl rfl (HSS.out _ HC8.out) (fun K hK => ?_))
                        | (refine ord_drop rfl rfl (fun K hK => ?_))
                        | (refine ord_nil ?_)
    | (go_at_call 14; refine (HN.out _ _).mono ?_; rintro e w' ⟨rfl, rfl⟩))
  go_ret
  exact ⟨rfl, HM5.out.trans HC8.out⟩
end Go.Proofs.YtgplagdehfhffaaDoor
/-
  SyntaxKnown's long texts: what they are read as.
-/
namespace Go.Proofs.YtgplagdehfhffaaDoor
open Go Go.RowKit Go.Mine
set_option linter.unusedVariables false
set_option maxHeartbeats 4000000
set_option maxRecDepth 100000

def tA : ByteArray := ⟨#[112, 40]⟩ ++ manyB ⟨#[97, 44]⟩ 63 ++ ⟨#[97]⟩
def tB : ByteArray := ⟨#[112, 58, 45]⟩ ++ manyB ⟨#[113, 44]⟩ 63 ++ ⟨#[113]⟩
def rA : Rm := ⟨⟨⟨#[112]⟩, List.replicate 64 ⟨3, ⟨#[97]⟩⟩⟩, []⟩
def rB : Rm := ⟨⟨⟨#[112]⟩, []⟩, List.replicate 64 ⟨1, ⟨⟨#[113]⟩, []⟩, 0, tm0, tm0⟩⟩
theorem lim_a : progS (tA ++ ⟨#[41, 46]⟩) = .ok [rA] := by
  have h : tA ++ ⟨#[41, 46]⟩ = ⟨#[112, 40, 97, 44, 97, 44, 97, 44, 97, 44, 97, 44, 97, 44, 97, 44, 97, 44, 97, 44, 97, 44, 97, 44, 97, 44, 97, 44, 97, 44, 97, 44, 97, 44, 97, 44, 97, 44, 97, 44, 97, 44, 97, 44, 97, 44, 97, 44, 97, 44, 97, 44, 97, 44, 97, 44, 97, 44, 97, 44, 97, 44, 97, 44, 97, 44, 97, 44, 97, 44, 97, 44, 97, 44, 97, 44, 97, 44, 97, 44, 97, 44, 97, 44, 97, 44, 97, 44, 97, 44, 97, 44, 97, 44, 97, 44, 97, 44, 97, 44, 97, 44, 97, 44, 97, 44, 97, 44, 97, 44, 97, 44, 97, 44, 97, 44, 97, 44, 97, 44, 97, 44, 97, 44, 97, 44, 97, 44, 97, 41, 46]⟩ := by kernel_rfl
  exact (congrArg progS h).trans (by kernel_rfl)
theorem lim_ax : progS (tA ++ ⟨#[44, 98, 41, 46]⟩) = .error (83, 130) := by
  have h : tA ++ ⟨#[44, 98, 41, 46]⟩ = ⟨#[112, 40, 97, 44, 97, 44, 97, 44, 97, 44, 97, 44, 97, 44, 97, 44, 97, 44, 97, 44, 97, 44, 97, 44, 97, 44, 97, 44, 97, 44, 97, 44, 97, 44, 97, 44, 97, 44, 97, 44, 97, 44, 97, 44, 97, 44, 97, 44, 97, 44, 97, 44, 97, 44, 97, 44, 97, 44, 97, 44, 97, 44, 97, 44, 97, 44, 97, 44, 97, 44, 97, 44, 97, 44, 97, 44, 97, 44, 97, 44, 97, 44, 97, 44, 97, 44, 97, 44, 97, 44, 97, 44, 97, 44, 97, 44, 97, 44, 97, 44, 97, 44, 97, 44, 97, 44, 97, 44, 97, 44, 97, 44, 97, 44, 97, 44, 97, 44, 97, 44, 97, 44, 97, 44, 97, 44, 97, 44, 97, 44, 98, 41, 46]⟩ := by kernel_rfl
  exact (congrArg progS h).trans (by kernel_rfl)
theorem lim_b : progS (tB ++ ⟨#[46]⟩) = .ok [rB] := by
  have h : tB ++ ⟨#[46]⟩ = ⟨#[112, 58, 45, 113, 44, 113, 44, 113, 44, 113, 44, 113, 44, 113, 44, 113, 44, 113, 44, 113, 44, 113, 44, 113, 44, 113, 44, 113, 44, 113, 44, 113, 44, 113, 44, 113, 44, 113, 44, 113, 44, 113, 44, 113, 44, 113, 44, 113, 44, 113, 44, 113, 44, 113, 44, 113, 44, 113, 44, 113, 44, 113, 44, 113, 44, 113, 44, 113, 44, 113, 44, 113, 44, 113, 44, 113, 44, 113, 44, 113, 44, 113, 44, 113, 44, 113, 44, 113, 44, 113, 44, 113, 44, 113, 44, 113, 44, 113, 44, 113, 44, 113, 44, 113, 44, 113, 44, 113, 44, 113, 44, 113, 44, 113, 44, 113, 44, 113, 44, 113, 44, 113, 44, 113, 44, 113, 44, 113, 44, 113, 46]⟩ := by kernel_rfl
  exact (congrArg progS h).trans (by kernel_rfl)
theorem lim_bx : progS (tB ++ ⟨#[44, 114, 46]⟩) = .error (82, 131) := by
  have h : tB ++ ⟨#[44, 114, 46]⟩ = ⟨#[112, 58, 45, 113, 44, 113, 44, 113, 44, 113, 44, 113, 44, 113, 44, 113, 44, 113, 44, 113, 44, 113, 44, 113, 44, 113, 44, 113, 44, 113, 44, 113, 44, 113, 44, 113, 44, 113, 44, 113, 44, 113, 44, 113, 44, 113, 44, 113, 44, 113, 44, 113, 44, 113, 44, 113, 44, 113, 44, 113, 44, 113, 44, 113, 44, 113, 44, 113, 44, 113, 44, 113, 44, 113, 44, 113, 44, 113, 44, 113, 44, 113, 44, 113, 44, 113, 44, 113, 44, 113, 44, 113, 44, 113, 44, 113, 44, 113, 44, 113, 44, 113, 44, 113, 44, 113, 44, 113, 44, 113, 44, 113, 44, 113, 44, 113, 44, 113, 44, 113, 44, 113, 44, 113, 44, 113, 44, 113, 44, 113, 44, 114, 46]⟩ := by kernel_rfl
  exact (congrArg progS h).trans (by kernel_rfl)
theorem lim_d {n : Nat} (hn : n = 1024) : progS (manyB ⟨#[112, 46]⟩ n) = .ok (List.replicate n pM) := by
  have h : manyB ⟨#[112, 46]⟩ n = ⟨(dL n []).toArray⟩ := ba_ext (many_d n)
  rw [h]
  exact known_d hn
theorem lim_dx {n : Nat} (hn : n = 1024) {c : UInt8} {k : Nat} (hc : c.toNat < 128 ∧ isPart c.toNat = true) (hk : kindR c.toNat = k) (hk0 : k ≠ 0) : progS (manyB ⟨#[112, 46]⟩ n ++ ⟨#[c]⟩) = if k = 1 then .error (81, 2 * n) else .error (80, 2 * n) := by
  have h : manyB ⟨#[112, 46]⟩ n ++ ⟨#[c]⟩ = ⟨(dL n [c]).toArray⟩ := ba_ext (by rw [ba_list, many_d n, dL_app]; rfl)
  rw [h]
  exact known_dx hn hc hk hk0
theorem lim_e {n : Nat} (hn : 0 < n) (hn2 : n ≤ 4096) : progS (manyB ⟨#[97]⟩ n ++ ⟨#[46]⟩) = .ok [⟨⟨⟨(List.replicate n (97 : UInt8)).toArray⟩, []⟩, []⟩] := by
  have h : manyB ⟨#[97]⟩ n ++ ⟨#[46]⟩ = ⟨(List.replicate n (97 : UInt8) ++ [46]).toArray⟩ := ba_ext (by rw [ba_list, many_a n])
  rw [h]
  have := known_e hn (by omega)
  rw [if_neg (by omega)] at this
  exact this
theorem lim_ex {n : Nat} (hn : n = 4096) : progS (manyB ⟨#[97]⟩ n ++ ⟨#[97, 46]⟩) = .error (84, 0) := by
  have h : manyB ⟨#[97]⟩ n ++ ⟨#[97, 46]⟩ = ⟨(List.replicate (n + 1) (97 : UInt8) ++ [46]).toArray⟩ := ba_ext (by
    rw [ba_list, many_a n, List.replicate_succ']
    simp)
  rw [h]
  have := known_e (m := n + 1) (by omega) (by omega)
  rw [if_pos (by omega)] at this
  exact this
theorem lim_s {n : Nat} (hn : n = 65537) : progS (manyB ⟨#[32]⟩ n) = .error (3, 0) := by
  unfold progS readL
  rw [if_pos (by rw [many_size]; show 65536 < n * 1; omega)]
theorem lim_q {n : Nat} (hn : n = 4096) : progS (⟨#[112, 40, 34]⟩ ++ manyB ⟨#[97]⟩ n ++ ⟨#[98, 34, 41, 46]⟩) = .error (84, 2) := by
  have h : (⟨#[112, 40, 34]⟩ : ByteArray) ++ manyB ⟨#[97]⟩ n ++ ⟨#[98, 34, 41, 46]⟩ = ⟨([112, 40, 34] ++ (List.replicate n (97 : UInt8) ++ [98]) ++ [34, 41, 46]).toArray⟩ := ba_ext (by
    rw [ba_list, ba_list, many_a n]
    simp)
  rw [h]
  refine known_q (m := n + 1) (by simp) (by omega) (by omega) (fun c hc => ?_)
  rcases List.mem_append.1 hc with hc | hc
  · rw [List.eq_of_mem_replicate hc]; decide
  · simp at hc; subst hc; decide
end Go.Proofs.YtgplagdehfhffaaDoor
/-
  SyntaxKnown's limits, walked.
-/
namespace Go.Proofs.YtgplagdehfhffaaDoor
open Go Go.RowKit Go.Mine
set_option linter.unusedVariables false
set_option maxHeartbeats 4000000
set_option maxRecDepth 100000

theorem rs_first {w : World} {v : Value} {r : Rm} (h : RsAt w v [r]) : ∃ b o c a1 c1 a2 c2, v = .slice (some ⟨b, o, none⟩) 1 c ∧ w.cell? ⟨b, o + 1, none⟩ = some (.slice a1 r.head.terms.length c1) ∧ w.cell? ⟨b, o + 2, none⟩ = some (.slice a2 r.body.length c2) := by
  obtain ⟨a, c, xs, rfl, hx, hr, ht⟩ := h
  obtain ⟨x, rfl⟩ : ∃ x, xs = [x] := by
    rcases xs with _ | ⟨x, _ | ⟨y, l⟩⟩
    · simp at hx
    · exact ⟨x, rfl⟩
    · simp at hx
  obtain ⟨r', s, t⟩ := x
  simp only [List.map_cons, List.map_nil, List.cons.injEq, and_true] at hx
  subst hx
  obtain ⟨b, o, rfl, _, q1, q2⟩ := rd_cellR hr (i := 0) rfl
  obtain ⟨⟨a1, c1, h1, _⟩, ⟨a2, c2, _, h2, _⟩⟩ := ht _ (List.mem_cons_self ..)
  simp only at h1 h2
  rw [h1] at q1
  rw [h2] at q2
  simp only [Nat.zero_mul, Nat.add_zero] at q1 q2
  exact ⟨b, o, c, a1, c1, a2, c2, rfl, q1, q2⟩
theorem tA_size : tA.size = 129 := by unfold tA; rw [ByteArray.size_append, ByteArray.size_append, many_size]; rfl
theorem tB_size : tB.size = 130 := by unfold tB; rw [ByteArray.size_append, ByteArray.size_append, many_size]; rfl
/-- one of the texts, read, and kept in a box -/
theorem limits_true (w : World) (hT : Lib.Utf8Tabs 1 2 w) : Calls Tryd.prog 35 #[] w fun e w' => e = .returned (.bool true) ∧ Mod (fun _ => False) w w' := by
  have HT := Lib.hid hT
  have HN := Lib.hid law8Num_any
  obtain ⟨n1, hn1⟩ : ∃ n : Nat, n = 1024 := ⟨_, rfl⟩
  obtain ⟨n4, hn4⟩ : ∃ n : Nat, n = 4096 := ⟨_, rfl⟩
  obtain ⟨n6, hn6⟩ : ∃ n : Nat, n = 65537 := ⟨_, rfl⟩
  have HM1 := Lib.hid (fun w => many_any ⟨#[97, 44]⟩ 63 63 w (by decide))
  have HM2 := Lib.hid (fun w => many_any ⟨#[113, 44]⟩ 63 63 w (by decide))
  have HM3 := Lib.hid (fun w => many_any ⟨#[112, 46]⟩ n1 1024 w (by decide) (by rw [hn1]; rfl) (by omega))
  have HM4 := Lib.hid (fun w => many_any ⟨#[97]⟩ n4 4096 w (by decide) (by rw [hn4]; rfl) (by omega))
  have HM6 := Lib.hid (fun w => many_any ⟨#[32]⟩ n6 65537 w (by decide) (by rw [hn6]; rfl) (by omega))
  have ZD : Hid ((manyB ⟨#[112, 46]⟩ n1).size = 2048) := Lib.hid (by rw [many_size, hn1]; rfl)
  have ZE : Hid ((manyB ⟨#[97]⟩ n4).size = 4096) := Lib.hid (by rw [many_size, hn4]; rfl)
  have ZS : Hid ((manyB ⟨#[32]⟩ n6).size = 65537) := Lib.hid (by rw [many_size, hn6]; rfl)
  have ZA := Lib.hid tA_size
  have ZB := Lib.hid tB_size
  have EA : Hid (⟨#[112, 40]⟩ ++ manyB ⟨#[97, 44]⟩ 63 ++ ⟨#[97]⟩ = tA) := Lib.hid rfl
  have EB : Hid (⟨#[112, 58, 45]⟩ ++ manyB ⟨#[113, 44]⟩ 63 ++ ⟨#[113]⟩ = tB) := Lib.hid rfl
  have LA := Lib.hid lim_a
  have LAX := Lib.hid lim_ax
  have LB := Lib.hid lim_b
  have LBX := Lib.hid lim_bx
  have LD := Lib.hid (lim_d hn1)
  have LDP := Lib.hid (lim_dx hn1 (c := 112) (k := 1) (by decide) (by decide) (by decide))
  have LDX := Lib.hid (lim_dx hn1 (c := 88) (k := 2) (by decide) (by decide) (by decide))
  have LE := Lib.hid (lim_e (n := n4) (by omega) (by omega))
  have LEX := Lib.hid (lim_ex hn4)
  have LS := Lib.hid (lim_s hn6)
  have LQ := Lib.hid (lim_q hn4)
  have HNN := Lib.hid (And.intro hn1 (And.intro hn4 hn6))
  generalize manyB ⟨#[112, 46]⟩ n1 = D at *
  generalize manyB ⟨#[97]⟩ n4 = E at *
  generalize manyB ⟨#[32]⟩ n6 = Z at *
  have SA1 : Hid ((manyB ⟨#[97, 44]⟩ 63).size = 126) := Lib.hid (by rw [many_size]; rfl)
  have SB1 : Hid ((manyB ⟨#[113, 44]⟩ 63).size = 126) := Lib.hid (by rw [many_size]; rfl)
  generalize manyB ⟨#[97, 44]⟩ 63 = A1 at *
  generalize manyB ⟨#[113, 44]⟩ 63 = B1 at *
  generalize tA = A at *
  generalize tB = B at *
  clear hn1 hn4 hn6 hT
  go_enter Tryd.func35, Tryd.ntmps35
  go_wp2_with fail
  refine (HM1.out _).mono ?_
  rintro e w' ⟨rfl, rfl⟩
  have h1 : ¬ 9223372036854775807 < (ByteArray.mk #[112, 40]).size + A1.size := by rw [SA1.out]; decide
  have h2 : ¬ 9223372036854775807 < (ByteArray.mk #[112, 40]).size + A1.size + (ByteArray.mk #[97]).size := by rw [SA1.out]; decide
  go_wp2_with fail
  rw [EA.out]
  refine (HM2.out _).mono ?_
  rintro e w' ⟨rfl, rfl⟩
  clear h1 h2
  have h1 : ¬ 9223372036854775807 < (ByteArray.mk #[112, 58, 45]).size + B1.size := by rw [SB1.out]; decide
  have h2 : ¬ 9223372036854775807 < (ByteArray.mk #[112, 58, 45]).size + B1.size + (ByteArray.mk #[113]).size := by rw [SB1.out]; decide
  go_wp2_with fail
  rw [EB.out]
  clear h1 h2
  refine (HM3.out _).mono ?_
  rintro e w' ⟨rfl, rfl⟩
  go_wp2_with fail
  refine (HM4.out _).mono ?_
  rintro e w' ⟨rfl, rfl⟩
  have h1 : ¬ 9223372036854775807 < A.size + (ByteArray.mk #[41, 46]).size := by rw [ZA.out]; decide
  go_wp2_with fail
  clear h1
  obtain ⟨T1, hT1⟩ : ∃ t, t = A ++ ⟨#[41, 46]⟩ := ⟨_, rfl⟩
  have p1 := LA.out
  rw [← hT1] at p1
  have z1 : T1.size < 2 ^ 30 := by rw [hT1]; (rw [ByteArray.size_append, ZA.out]; decide)
  rw [← hT1]
  clear hT1
  have HP := Lib.hid (parse_str T1 _ p1 z1)
  simp only [noOf, atOf, valOf] at HP
  have hcv := run_bytes_of_string (P := Tryd.prog) w 9 22 5 T1 (by kernel_rfl) (by kernel_rfl) (by kernel_rfl)
  rw [hcv]
  go_simp
  go_wp2_with fail
  clear hcv
  generalize grownCap w T1.size 0 5 = cap
  clear z1 p1
  refine (HP.out w HT.out cap _).mono ?_
  rintro e w1 ⟨v1, rfl, hv, hM1⟩
  obtain ⟨b1, o1, c1, a11, c11, a12, c12, rfl, q1, _⟩ := rs_first hv
  obtain ⟨u1, hu⟩ : ∃ u, u = w1.alloc (.cells #[.slice (some ⟨b1, o1, none⟩) 1 c1] 26) := ⟨_, rfl⟩
  have HM1 : Hid (Mod (fun _ => False) w u1) := by rw [hu]; exact hM1.alloc _
  have HB1 : Hid (u1.heap[w1.heap.size]? = some (.cells #[.slice (some ⟨b1, o1, none⟩) 1 c1] 26 (0, 0))) := by rw [hu]; exact heap_alloc_new w1 _
  have HA1 : Hid (Mod (fun _ => False) w1 u1) := by rw [hu]; exact (Mod.refl _ w1).alloc _
  have HU := Lib.hid hu
  clear hu
  have Q1 := Lib.hid (HA1.out.cell q1 id)
  clear hM1 hv q1 HP HA1
  have h1 : ¬ 9223372036854775807 < B.size + (ByteArray.mk #[46]).size := by rw [ZB.out]; decide
  go_wp2_with fail
  clear h1
  rw [← HU.out]
  clear HU
  obtain ⟨T2, hT1⟩ : ∃ t, t = B ++ ⟨#[46]⟩ := ⟨_, rfl⟩
  have p1 := LB.out
  rw [← hT1] at p1
  have z1 : T2.size < 2 ^ 30 := by rw [hT1]; (rw [ByteArray.size_append, ZB.out]; decide)
  rw [← hT1]
  clear hT1
  have HP := Lib.hid (parse_str T2 _ p1 z1)
  simp only [noOf, atOf, valOf] at HP
  have hcv := run_bytes_of_string (P := Tryd.prog) u1 9 22 5 T2 (by kernel_rfl) (by kernel_rfl) (by kernel_rfl)
  rw [hcv]
  go_simp
  go_wp2_with fail
  clear hcv
  generalize grownCap u1 T2.size 0 5 = cap
  clear z1 p1
  refine (HP.out u1 (tabs_mod HT.out HM1.out) cap _).mono ?_
  rintro e w2 ⟨v2, rfl, hv, hM2⟩
  obtain ⟨b2, o2, c2, a21, c21, a22, c22, rfl, _, q2⟩ := rs_first hv
  obtain ⟨u2, hu⟩ : ∃ u, u = w2.alloc (.cells #[.slice (some ⟨b2, o2, none⟩) 1 c2] 26) := ⟨_, rfl⟩
  have HM2 : Hid (Mod (fun _ => False) u1 u2) := by rw [hu]; exact hM2.alloc _
  have HB2 : Hid (u2.heap[w2.heap.size]? = some (.cells #[.slice (some ⟨b2, o2, none⟩) 1 c2] 26 (0, 0))) := by rw [hu]; exact heap_alloc_new w2 _
  have HA2 : Hid (Mod (fun _ => False) w2 u2) := by rw [hu]; exact (Mod.refl _ w2).alloc _
  have HU := Lib.hid hu
  clear hu
  have Q2 := Lib.hid (HA2.out.cell q2 id)
  clear hM2 hv q2 HP HA2
  go_wp2_with fail
  rw [← HU.out]
  clear HU
  have HM12 := Lib.hid (HM1.out.trans HM2.out)
  have HP := Lib.hid (parse_str D _ LD.out (by rw [ZD.out]; decide))
  simp only [noOf, atOf, valOf] at HP
  have hcv := run_bytes_of_string (P := Tryd.prog) u2 9 22 5 D (by kernel_rfl) (by kernel_rfl) (by kernel_rfl)
  rw [hcv]
  go_simp
  go_wp2_with fail
  clear hcv
  generalize grownCap u2 D.size 0 5 = cap
  refine (HP.out u2 (tabs_mod HT.out HM12.out) cap _).mono ?_
  rintro e w3 ⟨v3, rfl, hv, hM3⟩
  obtain ⟨a3, c3, _, rfl, _⟩ := hv
  simp only [List.length_replicate]
  obtain ⟨u3, hu⟩ : ∃ u, u = w3.alloc (.cells #[.slice a3 n1 c3] 26) := ⟨_, rfl⟩
  have HM3 : Hid (Mod (fun _ => False) u2 u3) := by rw [hu]; exact hM3.alloc _
  have HB3 : Hid (u3.heap[w3.heap.size]? = some (.cells #[.slice a3 n1 c3] 26 (0, 0))) := by rw [hu]; exact heap_alloc_new w3 _
  have HA3 : Hid (Mod (fun _ => False) w3 u3) := by rw [hu]; exact (Mod.refl _ w3).alloc _
  have HU := Lib.hid hu
  clear hu
  clear hM3 HP HA3
  have h1 : ¬ 9223372036854775807 < E.size + (ByteArray.mk #[46]).size := by rw [ZE.out]; decide
  go_wp2_with fail
  clear h1
  rw [← HU.out]
  clear HU
  have HM13 := Lib.hid (HM12.out.trans HM3.out)
  obtain ⟨T4, hT1⟩ : ∃ t, t = E ++ ⟨#[46]⟩ := ⟨_, rfl⟩
  have p1 := LE.out
  rw [← hT1] at p1
  have z1 : T4.size < 2 ^ 30 := by rw [hT1]; (rw [ByteArray.size_append, ZE.out]; decide)
  rw [← hT1]
  clear hT1
  have HP := Lib.hid (parse_str T4 _ p1 z1)
  simp only [noOf, atOf, valOf] at HP
  have hcv := run_bytes_of_string (P := Tryd.prog) u3 9 22 5 T4 (by kernel_rfl) (by kernel_rfl) (by kernel_rfl)
  rw [hcv]
  go_simp
  go_wp2_with fail
  clear hcv
  generalize grownCap u3 T4.size 0 5 = cap
  clear z1 p1
  refine (HP.out u3 (tabs_mod HT.out HM13.out) cap _).mono ?_
  rintro e w4 ⟨v4, rfl, hv, hM4⟩
  obtain ⟨a4, c4, _, rfl, _⟩ := hv
  simp only [List.length_cons, List.length_nil, Nat.zero_add]
  obtain ⟨u4, hu⟩ : ∃ u, u = w4.alloc (.cells #[.slice a4 1 c4] 26) := ⟨_, rfl⟩
  have HM4 : Hid (Mod (fun _ => False) u3 u4) := by rw [hu]; exact hM4.alloc _
  have HB4 : Hid (u4.heap[w4.heap.size]? = some (.cells #[.slice a4 1 c4] 26 (0, 0))) := by rw [hu]; exact heap_alloc_new w4 _
  have HA4 : Hid (Mod (fun _ => False) w4 u4) := by rw [hu]; exact (Mod.refl _ w4).alloc _
  have HU := Lib.hid hu
  clear hu
  clear hM4 HP HA4
  have HM4' := Lib.hid (HM13.out.trans HM4.out)
  have m24 := (HM2.out.trans HM3.out).trans HM4.out
  have m34 := HM3.out.trans HM4.out
  have d1 : u4.cell? ⟨w1.heap.size, 0, none⟩ = some (.slice (some ⟨b1, o1, none⟩) 1 c1) := cell_at (m24.at HB1.out id) rfl
  have d2 : u4.cell? ⟨w2.heap.size, 0, none⟩ = some (.slice (some ⟨b2, o2, none⟩) 1 c2) := cell_at (m34.at HB2.out id) rfl
  have d3 : u4.cell? ⟨w3.heap.size, 0, none⟩ = some (.slice a3 n1 c3) := cell_at (HM4.out.at HB3.out id) rfl
  have d4 : u4.cell? ⟨w4.heap.size, 0, none⟩ = some (.slice a4 1 c4) := cell_at HB4.out rfl
  have d5 := m24.cell Q1.out id
  have d6 := m34.cell Q2.out id
  have hq : ((n1 : Int) != 1024) = false := by rw [HNN.out.1]; rfl
  have hl1 : rA.head.terms.length = 64 := rfl
  have hl2 : rB.body.length = 64 := rfl
  rw [hl1] at d5
  rw [hl2] at d6
  clear m24 m34 hl1 hl2 HB1 HB2 HB3 HB4 Q1 Q2 HM1 HM2 HM3 HM12 HM13
  have HD := Lib.hid (And.intro d1 (And.intro d2 (And.intro d3 (And.intro d4 (And.intro d5 d6)))))
  have h1 : ¬ 9223372036854775807 < A.size + (ByteArray.mk #[44, 98, 41, 46]).size := by rw [ZA.out]; decide
  have h2 : ¬ 9223372036854775807 < B.size + (ByteArray.mk #[44, 114, 46]).size := by rw [ZB.out]; decide
  have h3 : ¬ 9223372036854775807 < D.size + (ByteArray.mk #[112]).size := by rw [ZD.out]; decide
  have h4 : ¬ 9223372036854775807 < E.size + (ByteArray.mk #[97, 46]).size := by rw [ZE.out]; decide
  have h5 : ¬ 9223372036854775807 < D.size + (ByteArray.mk #[88]).size := by rw [ZD.out]; decide
  have h6 : ¬ 9223372036854775807 < (ByteArray.mk #[112, 40, 34]).size + E.size := by rw [ZE.out]; decide
  have h7 : ¬ 9223372036854775807 < (ByteArray.mk #[112, 40, 34]).size + E.size + (ByteArray.mk #[98, 34, 41, 46]).size := by rw [ZE.out]; decide
  rw [HU.out] at d1 d2 d3 d4 d5 d6
  go_wp2_with (first
    | (go_at_call 14; refine (HN.out _ _).mono ?_; rintro e w' ⟨rfl, rfl⟩))
  rw [← HU.out]
  clear d1 d2 d3 d4 d5 d6 hq HU
  have HN0 := HM4'
  have HF := Lib.hid (fun W hT => fails_any (A ++ ⟨#[44, 98, 41, 46]⟩) (83, 130) 83 130 W hT (by rw [ByteArray.size_append, ZA.out]; decide) LAX.out)
  refine (HF.out _ (tabs_mod HT.out HN0.out)).mono ?_
  rintro e x1 ⟨rfl, hM⟩
  have HN1 := Lib.hid (HN0.out.trans hM)
  clear hM HF HN0
  go_wp2_with fail
  have HF := Lib.hid (fun W hT => fails_any (B ++ ⟨#[44, 114, 46]⟩) (82, 131) 82 131 W hT (by rw [ByteArray.size_append, ZB.out]; decide) LBX.out)
  refine (HF.out _ (tabs_mod HT.out HN1.out)).mono ?_
  rintro e x2 ⟨rfl, hM⟩
  have HN2 := Lib.hid (HN1.out.trans hM)
  clear hM HF HN1
  go_wp2_with fail
  have HF := Lib.hid (fun W hT => fails_any (D ++ ⟨#[112]⟩) (81, 2048) 81 2048 W hT (by rw [ByteArray.size_append, ZD.out]; decide) (by have := LDP.out; rw [HNN.out.1] at this; exact this))
  refine (HF.out _ (tabs_mod HT.out HN2.out)).mono ?_
  rintro e x3 ⟨rfl, hM⟩
  have HN3 := Lib.hid (HN2.out.trans hM)
  clear hM HF HN2
  go_wp2_with fail
  have HF := Lib.hid (fun W hT => fails_any (E ++ ⟨#[97, 46]⟩) (84, 0) 84 0 W hT (by rw [ByteArray.size_append, ZE.out]; decide) LEX.out)
  refine (HF.out _ (tabs_mod HT.out HN3.out)).mono ?_
  rintro e x4 ⟨rfl, hM⟩
  have HN4 := Lib.hid (HN3.out.trans hM)
  clear hM HF HN3
  go_wp2_with fail
  have HF := Lib.hid (fun W hT => fails_any (D ++ ⟨#[88]⟩) (80, 2048) 80 2048 W hT (by rw [ByteArray.size_append, ZD.out]; decide) (by have := LDX.out; rw [HNN.out.1] at this; exact this))
  refine (HF.out _ (tabs_mod HT.out HN4.out)).mono ?_
  rintro e x5 ⟨rfl, hM⟩
  have HN5 := Lib.hid (HN4.out.trans hM)
  clear hM HF HN4
  go_wp2_with fail
  refine (HM6.out _).mono ?_
  rintro e w' ⟨rfl, rfl⟩
  go_wp2_with fail
  have HF := Lib.hid (fun W hT => fails_any (Z) (3, 0) 3 0 W hT (by rw [ZS.out]; decide) LS.out)
  refine (HF.out _ (tabs_mod HT.out HN5.out)).mono ?_
  rintro e x6 ⟨rfl, hM⟩
  have HN6 := Lib.hid (HN5.out.trans hM)
  clear hM HF HN5
  go_wp2_with fail
  have HF := Lib.hid (fun W hT => fails_any (⟨#[112, 40, 34]⟩ ++ E ++ ⟨#[98, 34, 41, 46]⟩) (84, 2) 84 2 W hT (by rw [ByteArray.size_append, ByteArray.size_append, ZE.out]; decide) LQ.out)
  refine (HF.out _ (tabs_mod HT.out HN6.out)).mono ?_
  rintro e x7 ⟨rfl, hM⟩
  have HN7 := Lib.hid (HN6.out.trans hM)
  clear hM HF HN6
  go_wp2_with fail
  go_ret
  exact ⟨rfl, HN7.out⟩
end Go.Proofs.YtgplagdehfhffaaDoor
