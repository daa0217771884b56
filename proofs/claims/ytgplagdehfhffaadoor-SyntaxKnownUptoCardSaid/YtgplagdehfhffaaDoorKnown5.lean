/-
  SyntaxKnown, walked.
-/
import Derived.Test.YtgplagdehfhffaaDoorKnG
namespace Go.Proofs.YtgplagdehfhffaaDoor
open Go Go.RowKit Go.Mine
set_option linter.unusedVariables false
set_option maxHeartbeats 4000000
set_option maxRecDepth 100000

def kn1 : List UInt8 := [116, 40, 88, 44, 32, 115, 117, 109, 40, 89, 41, 41, 32, 58, 45, 32, 101, 40, 88, 44, 32, 89, 41, 46, 32, 99, 111, 117, 110, 116, 40, 99, 111, 117, 110, 116, 41, 46]
def kn3 : List UInt8 := [112, 32, 58, 45, 32, 97, 32, 61, 32, 98, 46]
def kr1 : Rm := ⟨⟨⟨#[116]⟩, [⟨1, ⟨#[88]⟩⟩, ⟨5, ⟨#[89]⟩⟩]⟩, [⟨1, ⟨⟨#[101]⟩, [⟨1, ⟨#[88]⟩⟩, ⟨1, ⟨#[89]⟩⟩]⟩, 0, ⟨0, ⟨#[]⟩⟩, ⟨0, ⟨#[]⟩⟩⟩]⟩
def kr2 : Rm := ⟨⟨⟨#[99, 111, 117, 110, 116]⟩, [⟨3, ⟨#[99, 111, 117, 110, 116]⟩⟩]⟩, []⟩
def kr3 : Rm := ⟨⟨⟨#[112]⟩, []⟩, [⟨3, ⟨⟨#[]⟩, []⟩, 1, ⟨3, ⟨#[97]⟩⟩, ⟨3, ⟨#[98]⟩⟩⟩]⟩
theorem kn1_r : progS ⟨kn1.toArray⟩ = .ok [kr1, kr2] := by kernel_rfl
theorem kn2_r : progS ⟨([] : List UInt8).toArray⟩ = .ok [] := by kernel_rfl
theorem kn3_r : progS ⟨kn3.toArray⟩ = .ok [kr3] := by kernel_rfl
theorem kf0 : progS ⟨#[112, 40, 41]⟩ = .error (80, 2) := by kernel_rfl
theorem kf1 : progS ⟨#[112, 40, 97]⟩ = .error (80, 3) := by kernel_rfl
theorem kf2 : progS ⟨#[112]⟩ = .error (80, 1) := by kernel_rfl
theorem kf3 : progS ⟨#[88, 46]⟩ = .error (80, 0) := by kernel_rfl
theorem kf4 : progS ⟨#[112, 32, 58, 45, 32, 97, 40, 98, 41, 32, 61, 32, 99, 46]⟩ = .error (80, 10) := by kernel_rfl
theorem kf5 : progS ⟨#[112, 32, 58, 45, 32, 34, 97, 34, 46]⟩ = .error (80, 8) := by kernel_rfl
theorem kf6 : progS ⟨#[112, 40, 113, 40, 97, 41, 41, 46]⟩ = .error (80, 3) := by kernel_rfl
theorem kf7 : progS ⟨#[112, 40, 99, 111, 117, 110, 116, 40, 41, 44, 32, 115, 117, 109, 40, 88, 41, 41, 32, 58, 45, 32, 101, 40, 88, 41, 46]⟩ = .error (80, 14) := by kernel_rfl
theorem kf8 : progS ⟨#[112, 40, 115, 117, 109, 40, 95, 41, 41, 32, 58, 45, 32, 101, 46]⟩ = .error (80, 6) := by kernel_rfl
theorem kf9 : progS ⟨#[112, 32, 58, 45, 32, 113, 40, 99, 111, 117, 110, 116, 40, 41, 41, 46]⟩ = .error (80, 12) := by kernel_rfl
theorem kf10 : progS ⟨#[112, 46, 32, 59]⟩ = .error (60, 3) := by kernel_rfl
theorem kf11 : progS ⟨#[112, 32, 58, 45, 32, 113, 40, 97, 44, 32, 34, 98]⟩ = .error (61, 12) := by kernel_rfl
theorem kf12 : progS ⟨#[112, 40, 88, 41, 32, 88, 46]⟩ = .error (80, 5) := by kernel_rfl
theorem known_walk (w : World) (hT : Lib.Utf8Tabs 1 2 w) : Calls Tryd.prog 5 #[] w fun e w' => e = .returned (.bool true) ∧ Mod (fun _ => False) w w' := by
  have HP1 := Lib.hid (fun a c W => parse_says kn1 38 rfl (by omega) a c W)
  have HP2 := Lib.hid (fun a c W => parse_says [] 0 rfl (by omega) a c W)
  have HP3 := Lib.hid (fun a c W => parse_says kn3 11 rfl (by omega) a c W)
  rw [kn1_r] at HP1
  rw [kn2_r] at HP2
  rw [kn3_r] at HP3
  unfold PSay at HP1 HP2 HP3
  simp only [noOf, atOf, valOf] at HP1 HP2 HP3
  have HT := Lib.hid hT
  have HN := Lib.hid law8Num_any
  clear hT
  have kc := fun (w : World) (C : Array Value) (n c : Nat) => Lib.run_convert_bytes_const (P := Tryd.prog) w 22 5 C n c Tryd.underlying22 Tryd.underlying5
  have kc2 := fun (w : World) (o : Obj) (C : Array Value) (n c : Nat) => (show (convert 22 22 (.slice (some ⟨w.heap.size + 1, 0, none⟩) n c)).run Tryd.prog ((w.alloc o).alloc (.cells C 5)) = .ok (.slice (some ⟨w.heap.size + 1, 0, none⟩) n c) ((w.alloc o).alloc (.cells C 5 (C.size, C.size + 1))) by
    have h := kc (w.alloc o) C n c
    rwa [World.size_alloc] at h)
  go_enter Tryd.func5, Tryd.ntmps5
  go_wp2_with fail
  refine (HP1.out _ _ _ (Rd.newsZ w (bts kn1) _ (_, _)) (tabs_mod HT.out ((Mod.refl _ w).alloc _))).mono ?_
  rintro e w1 ⟨s, rfl, hs, hM⟩
  have hm0 : Mod (fun _ => False) w w1 := ((Mod.refl _ w).alloc _).trans hM
  obtain ⟨a1, c1, _, rfl, _⟩ := id hs
  simp only [List.length_cons, List.length_nil, Nat.zero_add, Nat.reduceAdd] at hs ⊢
  obtain ⟨u1, hu⟩ : ∃ u, u = w1.alloc (.cells #[.slice a1 2 c1] 26) := ⟨_, rfl⟩
  have HB1 : Hid (u1.heap[w1.heap.size]? = some (.cells #[.slice a1 2 c1] 26 (0, 0))) := by rw [hu]; exact heap_alloc_new w1 _
  have HM1 : Hid (Mod (fun _ => False) w u1) := by rw [hu]; exact hm0.alloc _
  have HS1 : Hid (RsAt u1 (.slice a1 2 c1) [kr1, kr2]) := by rw [hu]; exact hs.mod0 ((Mod.refl (fun _ => False) w1).alloc _)
  have HU := Lib.hid hu
  clear hM hm0 hs hu HP1
  go_wp2_with fail
  rw [← HU.out]; clear HU
  refine (v_any _ _).mono ?_
  rintro e w2 ⟨rfl, hM2⟩
  go_wp2_with fail
  refine (v_any _ _).mono ?_
  rintro e w3 ⟨rfl, hM3⟩
  have HA3 := Lib.hid (show TsAt w3 (.slice (some ⟨w2.heap.size, 0, none⟩) 2 2) kr1.head.terms from TsAt.mod0 (w := w2.alloc (.cells (tmsC kr1.head.terms).toArray 60)) ⟨_, _, rfl, Rd.news w2 (tmsC kr1.head.terms) _⟩ hM3)
  have HM3 : Hid (Mod (fun _ => False) u1 w3) := Lib.hid ((hM2.alloc _).trans hM3)
  clear hM2 hM3
  go_wp2_with fail
  refine (v_any _ _).mono ?_
  rintro e w4 ⟨rfl, hM4⟩
  have hm1 : Mod (fun _ => False) w4 (w4.alloc (.cells (tmsC [⟨1, ⟨#[88]⟩⟩, ⟨1, ⟨#[89]⟩⟩]).toArray 60)) := (Mod.refl _ w4).alloc _
  have hm2 : Mod (fun _ => False) (w4.alloc (.cells (tmsC [⟨1, ⟨#[88]⟩⟩, ⟨1, ⟨#[89]⟩⟩]).toArray 60)) ((w4.alloc (.cells (tmsC [⟨1, ⟨#[88]⟩⟩, ⟨1, ⟨#[89]⟩⟩]).toArray 60)).alloc (.cells (lmsC [(⟨1, ⟨⟨#[101]⟩, [⟨1, ⟨#[88]⟩⟩, ⟨1, ⟨#[89]⟩⟩]⟩, 0, ⟨0, ⟨#[]⟩⟩, ⟨0, ⟨#[]⟩⟩⟩, .slice (some ⟨w4.heap.size, 0, none⟩) 2 2)]).toArray 62)) := (Mod.refl _ _).alloc _
  have ht4 : TsAt ((w4.alloc (.cells (tmsC [⟨1, ⟨#[88]⟩⟩, ⟨1, ⟨#[89]⟩⟩]).toArray 60)).alloc (.cells (lmsC [(⟨1, ⟨⟨#[101]⟩, [⟨1, ⟨#[88]⟩⟩, ⟨1, ⟨#[89]⟩⟩]⟩, 0, ⟨0, ⟨#[]⟩⟩, ⟨0, ⟨#[]⟩⟩⟩, .slice (some ⟨w4.heap.size, 0, none⟩) 2 2)]).toArray 62)) (.slice (some ⟨w4.heap.size, 0, none⟩) 2 2) [⟨1, ⟨#[88]⟩⟩, ⟨1, ⟨#[89]⟩⟩] := TsAt.mod0 ⟨_, _, rfl, Rd.news w4 (tmsC [⟨1, ⟨#[88]⟩⟩, ⟨1, ⟨#[89]⟩⟩]) _⟩ hm2
  have hl4 : LsAt ((w4.alloc (.cells (tmsC [⟨1, ⟨#[88]⟩⟩, ⟨1, ⟨#[89]⟩⟩]).toArray 60)).alloc (.cells (lmsC [(⟨1, ⟨⟨#[101]⟩, [⟨1, ⟨#[88]⟩⟩, ⟨1, ⟨#[89]⟩⟩]⟩, 0, ⟨0, ⟨#[]⟩⟩, ⟨0, ⟨#[]⟩⟩⟩, .slice (some ⟨w4.heap.size, 0, none⟩) 2 2)]).toArray 62)) (.slice (some ⟨w4.heap.size + 1, 0, none⟩) 1 1) kr1.body := by
    refine ⟨_, _, [(⟨1, ⟨⟨#[101]⟩, [⟨1, ⟨#[88]⟩⟩, ⟨1, ⟨#[89]⟩⟩]⟩, 0, ⟨0, ⟨#[]⟩⟩, ⟨0, ⟨#[]⟩⟩⟩, .slice (some ⟨w4.heap.size, 0, none⟩) 2 2)], rfl, rfl, ?_, ?_⟩
    · have := Rd.news (w4.alloc (.cells (tmsC [⟨1, ⟨#[88]⟩⟩, ⟨1, ⟨#[89]⟩⟩]).toArray 60)) (lmsC [(⟨1, ⟨⟨#[101]⟩, [⟨1, ⟨#[88]⟩⟩, ⟨1, ⟨#[89]⟩⟩]⟩, 0, ⟨0, ⟨#[]⟩⟩, ⟨0, ⟨#[]⟩⟩⟩, .slice (some ⟨w4.heap.size, 0, none⟩) 2 2)]) 62
      rw [World.size_alloc] at this
      exact this
    · intro x hx
      simp only [List.mem_cons, List.not_mem_nil, or_false] at hx
      subst hx
      exact ht4
  have HL4 := Lib.hid hl4
  have HM4 : Hid (Mod (fun _ => False) w3 ((w4.alloc (.cells (tmsC [⟨1, ⟨#[88]⟩⟩, ⟨1, ⟨#[89]⟩⟩]).toArray 60)).alloc (.cells (lmsC [(⟨1, ⟨⟨#[101]⟩, [⟨1, ⟨#[88]⟩⟩, ⟨1, ⟨#[89]⟩⟩]⟩, 0, ⟨0, ⟨#[]⟩⟩, ⟨0, ⟨#[]⟩⟩⟩, .slice (some ⟨w4.heap.size, 0, none⟩) 2 2)]).toArray 62))) := Lib.hid (hM4.trans (hm1.trans hm2))
  clear hM4 hm1 hm2 ht4 hl4
  go_wp2_with fail
  refine (c_any _ _).mono ?_
  rintro e w5 ⟨rfl, hM5⟩
  have HL5 : Hid (LsAt w5 (.slice (some ⟨w4.heap.size + 1, 0, none⟩) 1 1) kr1.body) := Lib.hid (HL4.out.mod0 hM5)
  have HA5 := Lib.hid (HA3.out.mod0 (HM4.out.trans hM5))
  have HM5 : Hid (Mod (fun _ => False) u1 w5) := Lib.hid (HM3.out.trans (HM4.out.trans hM5))
  clear hM5 HL4 HA3 HM3 HM4
  go_wp2_with fail
  obtain ⟨u5, hu⟩ : ∃ u, u = ((w5.alloc (.cells #[.int .i64 3, .string ⟨#[99, 111, 117, 110, 116]⟩] 60)).alloc (.cells #[.string ⟨#[116]⟩, .slice (some ⟨w2.heap.size, 0, none⟩) 2 2, .slice (some ⟨w4.heap.size + 1, 0, none⟩) 1 1, .string ⟨#[99, 111, 117, 110, 116]⟩, .slice (some ⟨w5.heap.size, 0, none⟩) 1 1, .slice none 0 0] 40)).alloc (.cells #[.slice (some ⟨w5.heap.size + 1, 0, none⟩) 2 2] 26) := ⟨_, rfl⟩
  have hm1 : Mod (fun _ => False) (w5.alloc (.cells #[.int .i64 3, .string ⟨#[99, 111, 117, 110, 116]⟩] 60)) u5 := by rw [hu]; exact ((Mod.refl _ _).alloc _).alloc _
  have hm2 : Mod (fun _ => False) ((w5.alloc (.cells #[.int .i64 3, .string ⟨#[99, 111, 117, 110, 116]⟩] 60)).alloc (.cells #[.string ⟨#[116]⟩, .slice (some ⟨w2.heap.size, 0, none⟩) 2 2, .slice (some ⟨w4.heap.size + 1, 0, none⟩) 1 1, .string ⟨#[99, 111, 117, 110, 116]⟩, .slice (some ⟨w5.heap.size, 0, none⟩) 1 1, .slice none 0 0] 40)) u5 := by rw [hu]; exact (Mod.refl _ _).alloc _
  have hm0 : Mod (fun _ => False) w5 u5 := by rw [hu]; exact (((Mod.refl _ _).alloc _).alloc _).alloc _
  have ht5 : TsAt u5 (.slice (some ⟨w5.heap.size, 0, none⟩) 1 1) kr2.head.terms := TsAt.mod0 ⟨_, _, rfl, Rd.news w5 (tmsC kr2.head.terms) _⟩ hm1
  have HR5 : Hid (RsAt u5 (.slice (some ⟨w5.heap.size + 1, 0, none⟩) 2 2) [kr1, kr2]) := by
    refine Lib.hid ⟨_, _, [(kr1, .slice (some ⟨w2.heap.size, 0, none⟩) 2 2, .slice (some ⟨w4.heap.size + 1, 0, none⟩) 1 1), (kr2, .slice (some ⟨w5.heap.size, 0, none⟩) 1 1, .slice none 0 0)], rfl, rfl, ?_, ?_⟩
    · have := Rd.news (w5.alloc (.cells #[.int .i64 3, .string ⟨#[99, 111, 117, 110, 116]⟩] 60)) (rmsC [(kr1, .slice (some ⟨w2.heap.size, 0, none⟩) 2 2, .slice (some ⟨w4.heap.size + 1, 0, none⟩) 1 1), (kr2, .slice (some ⟨w5.heap.size, 0, none⟩) 1 1, .slice none 0 0)]) 40
      rw [World.size_alloc] at this
      exact this.mod hm2 (fun _ _ => id)
    · intro x hx
      simp only [List.mem_cons, List.not_mem_nil, or_false] at hx
      rcases hx with rfl | rfl
      · exact ⟨HA5.out.mod0 hm0, HL5.out.mod0 hm0⟩
      · exact ⟨ht5, lsAt_nil _⟩
  have HB5 : Hid (u5.heap[w5.heap.size + 1 + 1]? = some (.cells #[.slice (some ⟨w5.heap.size + 1, 0, none⟩) 2 2] 26 (0, 0))) := by
    have := heap_alloc_new ((w5.alloc (.cells #[.int .i64 3, .string ⟨#[99, 111, 117, 110, 116]⟩] 60)).alloc (.cells #[.string ⟨#[116]⟩, .slice (some ⟨w2.heap.size, 0, none⟩) 2 2, .slice (some ⟨w4.heap.size + 1, 0, none⟩) 1 1, .string ⟨#[99, 111, 117, 110, 116]⟩, .slice (some ⟨w5.heap.size, 0, none⟩) 1 1, .slice none 0 0] 40)) (.cells #[.slice (some ⟨w5.heap.size + 1, 0, none⟩) 2 2] 26)
    rw [World.size_alloc, World.size_alloc] at this
    rw [hu]; exact this
  have HM6 := Lib.hid (HM5.out.trans hm0)
  have HM7 := Lib.hid (HM1.out.trans HM6.out)
  have HU := Lib.hid hu
  clear hm0 hm1 hm2 ht5 hu HL5 HA5 HM5
  go_wp2_with fail
  rw [← HU.out]
  clear HU
  refine (HP2.out none 0 _ (Rd.nil _ _) (tabs_mod HT.out HM7.out)).mono ?_
  rintro e w6 ⟨s, rfl, hs, hM⟩
  obtain ⟨a6, c6, _, rfl, _⟩ := hs
  simp only [List.length_nil]
  have HMp := Lib.hid hM
  clear hM HP2
  go_wp2_with fail
  clear kc kc2
  have m6 : Mod (fun _ => False) w6 (w6.alloc (.cells #[.slice a6 0 c6] 26)) := (Mod.refl _ w6).alloc _
  have M6 := Lib.hid m6
  have HM8 := Lib.hid (HM7.out.trans (HMp.out.trans m6))
  have HB6 := Lib.hid (heap_alloc_new w6 (.cells #[.slice a6 0 c6] 26))
  clear m6
  refine (HP3.out _ _ _ (Rd.newsZ (g := w6.heap.size + 1) (w6.alloc _) (bts kn3) _ (_, _)) (tabs_mod HT.out (HM8.out.alloc _))).mono ?_
  rintro e w7 ⟨s, rfl, hs, hM⟩
  obtain ⟨a7, c7, _, rfl, _⟩ := id hs
  simp only [List.length_cons, List.length_nil, Nat.zero_add] at hs ⊢
  obtain ⟨u7, hu⟩ : ∃ u, u = w7.alloc (.cells #[.slice a7 1 c7] 26) := ⟨_, rfl⟩
  have m7 : Mod (fun _ => False) w7 u7 := by rw [hu]; exact (Mod.refl _ w7).alloc _
  have m67 : Mod (fun _ => False) (w6.alloc (.cells #[.slice a6 0 c6] 26)) u7 := (((Mod.refl _ _).alloc _).trans hM).trans m7
  have HS7 : Hid (RsAt u7 (.slice a7 1 c7) [kr3]) := Lib.hid (hs.mod0 m7)
  have HM9 := Lib.hid (HM8.out.trans m67)
  have m57 : Mod (fun _ => False) u5 u7 := (HMp.out.trans M6.out).trans m67
  have m17 : Mod (fun _ => False) u1 u7 := HM6.out.trans m57
  have q1 : u7.cell? ⟨w1.heap.size, 0, none⟩ = some (.slice a1 2 c1) := cell_at (m17.at HB1.out id) rfl
  have q2 : u7.cell? ⟨w5.heap.size + 1 + 1, 0, none⟩ = some (.slice (some ⟨w5.heap.size + 1, 0, none⟩) 2 2) := cell_at (m57.at HB5.out id) rfl
  have q3 : u7.cell? ⟨w6.heap.size, 0, none⟩ = some (.slice a6 0 c6) := cell_at (m67.at HB6.out id) rfl
  have q4 : u7.cell? ⟨w7.heap.size, 0, none⟩ = some (.slice a7 1 c7) := by rw [hu]; exact cell_at (heap_alloc_new w7 _) rfl
  have HS1' := Lib.hid (HS1.out.mod0 m17)
  have HR5' := Lib.hid (HR5.out.mod0 m57)
  have HSS : Hid (∀ W, Mod (fun _ => False) u7 W → W.cell? ⟨w1.heap.size, 0, none⟩ = some (.slice a1 2 c1) ∧ W.cell? ⟨w5.heap.size + 1 + 1, 0, none⟩ = some (.slice (some ⟨w5.heap.size + 1, 0, none⟩) 2 2) ∧ W.cell? ⟨w6.heap.size, 0, none⟩ = some (.slice a6 0 c6) ∧ W.cell? ⟨w7.heap.size, 0, none⟩ = some (.slice a7 1 c7)) := fun W m => ⟨m.cell q1 id, m.cell q2 id, m.cell q3 id, m.cell q4 id⟩
  have HU := Lib.hid hu
  clear hM hs m7 m67 m57 m17 q1 q2 q3 q4 hu HP3 HS1 HR5 HB1 HB5 HB6 HM6 HM7 HM8 M6 HMp
  go_wp2_with fail
  rw [← HU.out]
  clear HU
  refine wp_region_ord (fun W => W.cell? ⟨w1.heap.size, 0, none⟩ = some (.slice a1 2 c1) ∧ W.cell? ⟨w5.heap.size + 1 + 1, 0, none⟩ = some (.slice (some ⟨w5.heap.size + 1, 0, none⟩) 2 2) ∧ W.cell? ⟨w6.heap.size, 0, none⟩ = some (.slice a6 0 c6) ∧ W.cell? ⟨w7.heap.size, 0, none⟩ = some (.slice a7 1 c7)) [(3, 0), (0, 1), (0, 2), (0, 3), (3, 4), (0, 5), (0, 6), (0, 7), (1, 8), (1, 9), (3, 10), (0, 11), (0, 12), (0, 13), (0, 14), (3, 15), (0, 16), (0, 17), (0, 18), (0, 19), (1, 20), (0, 21), (0, 22), (0, 23), (0, 24), (0, 25), (3, 26), (0, 27), (0, 28), (0, 29), (1, 30), (0, 31), (2, 32), (2, 33), (0, 34), (2, 35), (0, 36), (2, 37), (0, 38), (3, 39), (0, 40), (0, 41)] (by kernel_rfl) (by kernel_rfl) ?_
  have HC := Lib.hid ((Mod.refl (fun _ => False) u7).drew)
  go_wp2_with (first
    | (refine ord_pure rfl rfl rfl (fun K hK => ?_); go_big_quiet_op; refine hK _ ?_; clear hK K)
                        | (refine ord_skip rfl rfl ?_; simp only [Act.put, List.setIfInBounds_toArray, List.set_cons_zero, List.set_cons_succ])
                        | (refine ord_held rfl rfl rfl (HSS.out _ HC.out) (fun K hK => ?_); apply Exists.intro; refine ⟨fun w' hs => ?_, hK _ ?_⟩; (revert hs; dsimp only; (try simp only [and_imp]); intros; go_simp; rfl); clear hK K)
                        | (refine ord_keep rfl rfl (HSS.out _ HC.out) (fun K hK => ?_))
                        | (refine ord_drop rfl rfl (fun K hK => ?_))
                        | (refine ord_nil ?_))
  refine (awake_true _ (tabs_mod HT.out (HM9.out.trans HC.out))).mono ?_
  rintro e x1 ⟨rfl, hM⟩
  have HC1 := Lib.hid (HC.out.trans hM)
  have HQ := Lib.hid (law8Prog_true [kr1, kr2] (.slice a1 2 c1) (.slice (some ⟨w5.heap.size + 1, 0, none⟩) 2 2) x1 (HS1'.out.mod0 HC1.out) (HR5'.out.mod0 HC1.out) (by simp) (fun r hr => (prog_small kn1_r).2 r hr |>.smR))
  clear hM HC HS1' HR5'
  go_wp2_with (first
    | (refine ord_pure rfl rfl rfl (fun K hK => ?_); go_big_quiet_op; refine hK _ ?_; clear hK K)
                        | (refine ord_skip rfl rfl ?_; simp only [Act.put, List.setIfInBounds_toArray, List.set_cons_zero, List.set_cons_succ])
                        | (refine ord_held rfl rfl rfl (HSS.out _ HC1.out) (fun K hK => ?_); apply Exists.intro; refine ⟨fun w' hs => ?_, hK _ ?_⟩; (revert hs; dsimp only; (try simp only [and_imp]); intros; go_simp; rfl); clear hK K)
                        | (refine ord_keep rfl rfl (HSS.out _ HC1.out) (fun K hK => ?_))
                        | (refine ord_drop rfl rfl (fun K hK => ?_))
                        | (refine ord_nil ?_)
    | (go_at_call 14; refine (HN.out _ _).mono ?_; rintro e w' ⟨rfl, rfl⟩))
  refine HQ.out.mono ?_
  rintro e x2 ⟨rfl, hM⟩
  have HC2 := Lib.hid (HC1.out.trans hM)
  clear hM HC1 HQ
  go_wp2_with (first
    | (refine ord_pure rfl rfl rfl (fun K hK => ?_); go_big_quiet_op; refine hK _ ?_; clear hK K)
                        | (refine ord_skip rfl rfl ?_; simp only [Act.put, List.setIfInBounds_toArray, List.set_cons_zero, List.set_cons_succ])
                        | (refine ord_held rfl rfl rfl (HSS.out _ HC2.out) (fun K hK => ?_); apply Exists.intro; refine ⟨fun w' hs => ?_, hK _ ?_⟩; (revert hs; dsimp only; (try simp only [and_imp]); intros; go_simp; rfl); clear hK K)
                        | (refine ord_keep rfl rfl (HSS.out _ HC2.out) (fun K hK => ?_))
                        | (refine ord_drop rfl rfl (fun K hK => ?_))
                        | (refine ord_nil ?_)
    | (go_at_call 14; refine (HN.out _ _).mono ?_; rintro e w' ⟨rfl, rfl⟩))
  refine (c_any _ _).mono ?_
  rintro e x3 ⟨rfl, hM⟩
  have HC3 := Lib.hid (HC2.out.trans hM)
  clear hM HC2
  refine hK _ _ (HSS.out _ HC3.out) ?_; clear hK K
  go_wp2_with (first
    | (refine ord_pure rfl rfl rfl (fun K hK => ?_); go_big_quiet_op; refine hK _ ?_; clear hK K)
                        | (refine ord_skip rfl rfl ?_; simp only [Act.put, List.setIfInBounds_toArray, List.set_cons_zero, List.set_cons_succ])
                        | (refine ord_held rfl rfl rfl (HSS.out _ HC3.out) (fun K hK => ?_); apply Exists.intro; refine ⟨fun w' hs => ?_, hK _ ?_⟩; (revert hs; dsimp only; (try simp only [and_imp]); intros; go_simp; rfl); clear hK K)
                        | (refine ord_keep rfl rfl (HSS.out _ HC3.out) (fun K hK => ?_))
                        | (refine ord_drop rfl rfl (fun K hK => ?_))
                        | (refine ord_nil ?_))
  refine (c_any _ _).mono ?_
  rintro e x4 ⟨rfl, hM⟩
  have HC4 := Lib.hid (HC3.out.trans hM)
  clear hM HC3
  refine hK _ _ (HSS.out _ HC4.out) ?_; clear hK K
  go_wp2_with (first
    | (refine ord_pure rfl rfl rfl (fun K hK => ?_); go_big_quiet_op; refine hK _ ?_; clear hK K)
                        | (refine ord_skip rfl rfl ?_; simp only [Act.put, List.setIfInBounds_toArray, List.set_cons_zero, List.set_cons_succ])
                        | (refine ord_held rfl rfl rfl (HSS.out _ HC4.out) (fun K hK => ?_); apply Exists.intro; refine ⟨fun w' hs => ?_, hK _ ?_⟩; (revert hs; dsimp only; (try simp only [and_imp]); intros; go_simp; rfl); clear hK K)
                        | (refine ord_keep rfl rfl (HSS.out _ HC4.out) (fun K hK => ?_))
                        | (refine ord_drop rfl rfl (fun K hK => ?_))
                        | (refine ord_nil ?_))
  have hm1 : Mod (fun _ => False) x4 (x4.alloc (.cells #[.int .i64 3, .string ⟨#[]⟩, .slice none 0 0, .int .i64 1, .int .i64 3, .string ⟨#[97]⟩, .int .i64 3, .string ⟨#[98]⟩] 62)) := (Mod.refl _ x4).alloc _
  have HC5 := Lib.hid (HC4.out.trans hm1)
  have HLx : Hid (LsAt (x4.alloc (.cells #[.int .i64 3, .string ⟨#[]⟩, .slice none 0 0, .int .i64 1, .int .i64 3, .string ⟨#[97]⟩, .int .i64 3, .string ⟨#[98]⟩] 62)) (.slice (some ⟨x4.heap.size, 0, none⟩) 1 1) kr3.body) := Lib.hid ⟨_, _, [(⟨3, ⟨⟨#[]⟩, []⟩, 1, ⟨3, ⟨#[97]⟩⟩, ⟨3, ⟨#[98]⟩⟩⟩, .slice none 0 0)], rfl, rfl, Rd.news x4 _ _, by
    intro x hx
    simp only [List.mem_cons, List.not_mem_nil, or_false] at hx
    subst hx
    exact tsAt_nil _⟩
  refine hK _ _ (HSS.out _ HC5.out) ?_; clear hK K
  go_wp2_with (first
    | (refine ord_pure rfl rfl rfl (fun K hK => ?_); go_big_quiet_op; refine hK _ ?_; clear hK K)
                        | (refine ord_skip rfl rfl ?_; simp only [Act.put, List.setIfInBounds_toArray, List.set_cons_zero, List.set_cons_succ])
                        | (refine ord_held rfl rfl rfl (HSS.out _ HC5.out) (fun K hK => ?_); apply Exists.intro; refine ⟨fun w' hs => ?_, hK _ ?_⟩; (revert hs; dsimp only; (try simp only [and_imp]); intros; go_simp; rfl); clear hK K)
                        | (refine ord_keep rfl rfl (HSS.out _ HC5.out) (fun K hK => ?_))
                        | (refine ord_drop rfl rfl (fun K hK => ?_))
                        | (refine ord_nil ?_))
  have hm2 : Mod (fun _ => False) (x4.alloc (.cells #[.int .i64 3, .string ⟨#[]⟩, .slice none 0 0, .int .i64 1, .int .i64 3, .string ⟨#[97]⟩, .int .i64 3, .string ⟨#[98]⟩] 62)) ((x4.alloc (.cells #[.int .i64 3, .string ⟨#[]⟩, .slice none 0 0, .int .i64 1, .int .i64 3, .string ⟨#[97]⟩, .int .i64 3, .string ⟨#[98]⟩] 62)).alloc (.cells #[.string ⟨#[112]⟩, .slice none 0 0, .slice (some ⟨x4.heap.size, 0, none⟩) 1 1] 40)) := (Mod.refl _ _).alloc _
  have HC6 := Lib.hid (HC5.out.trans hm2)
  have hr3 : RsAt ((x4.alloc (.cells #[.int .i64 3, .string ⟨#[]⟩, .slice none 0 0, .int .i64 1, .int .i64 3, .string ⟨#[97]⟩, .int .i64 3, .string ⟨#[98]⟩] 62)).alloc (.cells #[.string ⟨#[112]⟩, .slice none 0 0, .slice (some ⟨x4.heap.size, 0, none⟩) 1 1] 40)) (.slice (some ⟨x4.heap.size + 1, 0, none⟩) 1 1) [kr3] := by
    refine ⟨_, _, [(kr3, .slice none 0 0, .slice (some ⟨x4.heap.size, 0, none⟩) 1 1)], rfl, rfl, ?_, ?_⟩
    · have := Rd.news (x4.alloc (.cells #[.int .i64 3, .string ⟨#[]⟩, .slice none 0 0, .int .i64 1, .int .i64 3, .string ⟨#[97]⟩, .int .i64 3, .string ⟨#[98]⟩] 62)) (rmsC [(kr3, .slice none 0 0, .slice (some ⟨x4.heap.size, 0, none⟩) 1 1)]) 40
      rw [World.size_alloc] at this
      exact this
    · intro x hx
      simp only [List.mem_cons, List.not_mem_nil, or_false] at hx
      subst hx
      exact ⟨tsAt_nil _, HLx.out.mod0 hm2⟩
  have HQ := Lib.hid (law8Prog_true [kr3] (.slice a7 1 c7) (.slice (some ⟨x4.heap.size + 1, 0, none⟩) 1 1) ((x4.alloc (.cells #[.int .i64 3, .string ⟨#[]⟩, .slice none 0 0, .int .i64 1, .int .i64 3, .string ⟨#[97]⟩, .int .i64 3, .string ⟨#[98]⟩] 62)).alloc (.cells #[.string ⟨#[112]⟩, .slice none 0 0, .slice (some ⟨x4.heap.size, 0, none⟩) 1 1] 40)) (HS7.out.mod0 HC6.out) hr3 (by simp) (fun r hr => (prog_small kn3_r).2 r hr |>.smR))
  clear hm1 hm2 hr3 HLx HC4 HS7
  refine hK _ _ (HSS.out _ HC6.out) ?_; clear hK K
  go_wp2_with (first
    | (refine ord_pure rfl rfl rfl (fun K hK => ?_); go_big_quiet_op; refine hK _ ?_; clear hK K)
                        | (refine ord_skip rfl rfl ?_; simp only [Act.put, List.setIfInBounds_toArray, List.set_cons_zero, List.set_cons_succ])
                        | (refine ord_held rfl rfl rfl (HSS.out _ HC6.out) (fun K hK => ?_); apply Exists.intro; refine ⟨fun w' hs => ?_, hK _ ?_⟩; (revert hs; dsimp only; (try simp only [and_imp]); intros; go_simp; rfl); clear hK K)
                        | (refine ord_keep rfl rfl (HSS.out _ HC6.out) (fun K hK => ?_))
                        | (refine ord_drop rfl rfl (fun K hK => ?_))
                        | (refine ord_nil ?_))
  refine HQ.out.mono ?_
  rintro e x5 ⟨rfl, hM⟩
  have HC7 := Lib.hid (HM9.out.trans (HC6.out.trans hM))
  clear hM HC6 HC5 HQ HM9
  go_wp2_with (first
    | (refine ord_pure rfl rfl rfl (fun K hK => ?_); go_big_quiet_op; refine hK _ ?_; clear hK K)
                        | (refine ord_skip rfl rfl ?_; simp only [Act.put, List.setIfInBounds_toArray, List.set_cons_zero, List.set_cons_succ])
                        | (refine ord_held rfl rfl rfl (True.intro) (fun K hK => ?_); apply Exists.intro; refine ⟨fun w' hs => ?_, hK _ ?_⟩; (revert hs; dsimp only; (try simp only [and_imp]); intros; go_simp; rfl); clear hK K)
                        | (refine ord_keep rfl rfl (True.intro) (fun K hK => ?_))
                        | (refine ord_drop rfl rfl (fun K hK => ?_))
                        | (refine ord_nil ?_)
    | (go_at_call 14; refine (HN.out _ _).mono ?_; rintro e w' ⟨rfl, rfl⟩))
  have HN0 := HC7
  clear HC7 HSS HN
  have HF := Lib.hid (fun W hT => fails_any _ (80, 2) 80 2 W hT (by decide) kf0)
  refine (HF.out _ (tabs_mod HT.out HN0.out)).mono ?_
  rintro e y0 ⟨rfl, hM⟩
  have HN1 := Lib.hid (HN0.out.trans hM)
  clear hM HF HN0
  go_wp2_with fail
  have HF := Lib.hid (fun W hT => fails_any _ (80, 3) 80 3 W hT (by decide) kf1)
  refine (HF.out _ (tabs_mod HT.out HN1.out)).mono ?_
  rintro e y1 ⟨rfl, hM⟩
  have HN2 := Lib.hid (HN1.out.trans hM)
  clear hM HF HN1
  go_wp2_with fail
  have HF := Lib.hid (fun W hT => fails_any _ (80, 1) 80 1 W hT (by decide) kf2)
  refine (HF.out _ (tabs_mod HT.out HN2.out)).mono ?_
  rintro e y2 ⟨rfl, hM⟩
  have HN3 := Lib.hid (HN2.out.trans hM)
  clear hM HF HN2
  go_wp2_with fail
  have HF := Lib.hid (fun W hT => fails_any _ (80, 0) 80 0 W hT (by decide) kf3)
  refine (HF.out _ (tabs_mod HT.out HN3.out)).mono ?_
  rintro e y3 ⟨rfl, hM⟩
  have HN4 := Lib.hid (HN3.out.trans hM)
  clear hM HF HN3
  go_wp2_with fail
  have HF := Lib.hid (fun W hT => fails_any _ (80, 10) 80 10 W hT (by decide) kf4)
  refine (HF.out _ (tabs_mod HT.out HN4.out)).mono ?_
  rintro e y4 ⟨rfl, hM⟩
  have HN5 := Lib.hid (HN4.out.trans hM)
  clear hM HF HN4
  go_wp2_with fail
  have HF := Lib.hid (fun W hT => fails_any _ (80, 8) 80 8 W hT (by decide) kf5)
  refine (HF.out _ (tabs_mod HT.out HN5.out)).mono ?_
  rintro e y5 ⟨rfl, hM⟩
  have HN6 := Lib.hid (HN5.out.trans hM)
  clear hM HF HN5
  go_wp2_with fail
  have HF := Lib.hid (fun W hT => fails_any _ (80, 3) 80 3 W hT (by decide) kf6)
  refine (HF.out _ (tabs_mod HT.out HN6.out)).mono ?_
  rintro e y6 ⟨rfl, hM⟩
  have HN7 := Lib.hid (HN6.out.trans hM)
  clear hM HF HN6
  go_wp2_with fail
  have HF := Lib.hid (fun W hT => fails_any _ (80, 14) 80 14 W hT (by decide) kf7)
  refine (HF.out _ (tabs_mod HT.out HN7.out)).mono ?_
  rintro e y7 ⟨rfl, hM⟩
  have HN8 := Lib.hid (HN7.out.trans hM)
  clear hM HF HN7
  go_wp2_with fail
  have HF := Lib.hid (fun W hT => fails_any _ (80, 6) 80 6 W hT (by decide) kf8)
  refine (HF.out _ (tabs_mod HT.out HN8.out)).mono ?_
  rintro e y8 ⟨rfl, hM⟩
  have HN9 := Lib.hid (HN8.out.trans hM)
  clear hM HF HN8
  go_wp2_with fail
  have HF := Lib.hid (fun W hT => fails_any _ (80, 12) 80 12 W hT (by decide) kf9)
  refine (HF.out _ (tabs_mod HT.out HN9.out)).mono ?_
  rintro e y9 ⟨rfl, hM⟩
  have HN10 := Lib.hid (HN9.out.trans hM)
  clear hM HF HN9
  go_wp2_with fail
  have HF := Lib.hid (fun W hT => fails_any _ (60, 3) 60 3 W hT (by decide) kf10)
  refine (HF.out _ (tabs_mod HT.out HN10.out)).mono ?_
  rintro e y10 ⟨rfl, hM⟩
  have HN11 := Lib.hid (HN10.out.trans hM)
  clear hM HF HN10
  go_wp2_with fail
  have HF := Lib.hid (fun W hT => fails_any _ (61, 12) 61 12 W hT (by decide) kf11)
  refine (HF.out _ (tabs_mod HT.out HN11.out)).mono ?_
  rintro e y11 ⟨rfl, hM⟩
  have HN12 := Lib.hid (HN11.out.trans hM)
  clear hM HF HN11
  go_wp2_with fail
  have HF := Lib.hid (fun W hT => fails_any _ (80, 5) 80 5 W hT (by decide) kf12)
  refine (HF.out _ (tabs_mod HT.out HN12.out)).mono ?_
  rintro e y12 ⟨rfl, hM⟩
  have HN13 := Lib.hid (HN12.out.trans hM)
  clear hM HF HN12
  go_wp2_with fail
  refine (limits_true _ (tabs_mod HT.out HN13.out)).mono ?_
  rintro e z1 ⟨rfl, hM⟩
  have HN14 := Lib.hid (HN13.out.trans hM)
  clear hM HN13
  go_wp2_with fail
  refine (parts_true _ (tabs_mod HT.out HN14.out)).mono ?_
  rintro e z2 ⟨rfl, hM⟩
  have HN15 := Lib.hid (HN14.out.trans hM)
  clear hM HN14
  go_wp2_with fail
  go_ret
  exact ⟨rfl, HN15.out⟩
end Go.Proofs.YtgplagdehfhffaaDoor
