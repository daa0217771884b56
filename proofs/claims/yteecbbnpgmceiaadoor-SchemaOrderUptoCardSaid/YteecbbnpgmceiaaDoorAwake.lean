/-
  awake: the chapter's first program is read, and may be.
-/
import Derived.Test.YteecbbnpgmceiaaDoorLawP
import Derived.Test.YteecbbnpgmceiaaDoorMayP
import Derived.Lib.SlBytesConst
namespace Go.Proofs.YteecbbnpgmceiaaDoor
open Go Go.RowKit Go.Mine
set_option linter.unusedVariables false
set_option maxHeartbeats 4000000
set_option maxRecDepth 100000

def awakeL : List UInt8 := [112, 40, 88, 44, 32, 97, 44, 32, 34, 98, 32, 99, 34, 44, 32, 95, 41, 32, 58, 45, 32, 113, 40, 88, 41, 44, 32, 33, 114, 44, 32, 88, 32, 60, 32, 49, 48, 46]
def awakeR : Rm := ⟨⟨⟨#[112]⟩, [⟨1, ⟨#[88]⟩⟩, ⟨3, ⟨#[97]⟩⟩, ⟨3, ⟨#[98, 32, 99]⟩⟩, ⟨2, ⟨#[]⟩⟩]⟩, [⟨1, ⟨⟨#[113]⟩, [⟨1, ⟨#[88]⟩⟩]⟩, 0, ⟨0, ⟨#[]⟩⟩, ⟨0, ⟨#[]⟩⟩⟩, ⟨2, ⟨⟨#[114]⟩, []⟩, 0, ⟨0, ⟨#[]⟩⟩, ⟨0, ⟨#[]⟩⟩⟩, ⟨3, ⟨⟨#[]⟩, []⟩, 3, ⟨1, ⟨#[88]⟩⟩, ⟨3, ⟨#[49, 48]⟩⟩⟩]⟩
theorem awake_reads : progS ⟨awakeL.toArray⟩ = .ok [awakeR] := by kernel_rfl
theorem awake_may : mayPm [awakeR] = 0 := prog_may awake_reads
theorem awake_small : SmallPm [awakeR] := by
  have h := prog_small awake_reads
  refine ⟨by simp, fun r hr => ?_⟩
  have h2 := h.2 r hr
  exact ⟨⟨by have := h2.1.1; omega, by have := h2.1.2.1; omega, fun t ht => by have := h2.1.2.2 t ht; unfold TmS at this; omega⟩, by have := h2.2.1; omega, fun l hl => by
    have h3 := h2.2.2 l hl
    exact ⟨⟨by have := h3.1.1; omega, by have := h3.1.2.1; omega, fun t ht => by have := h3.1.2.2 t ht; unfold TmS at this; omega⟩, by have := h3.2.1; unfold TmS at this; omega, by have := h3.2.2; unfold TmS at this; omega⟩⟩
theorem v_any (s : ByteArray) (w : World) : Calls Tryd.prog 40 #[.string s] w fun e w' => e = .returned (.agg #[.int .i64 1, .string s]) ∧ Mod (fun _ => False) w w' := by
  go_enter Tryd.func40, Tryd.ntmps40
  go_wp2
  refine bodyPost_ret (v := .agg #[.int .i64 1, .string s]) (by simp [results, Tryd.results40, go_sem]) rfl ⟨rfl, (Mod.refl _ w).alloc _⟩
theorem c_any (s : ByteArray) (w : World) : Calls Tryd.prog 41 #[.string s] w fun e w' => e = .returned (.agg #[.int .i64 3, .string s]) ∧ Mod (fun _ => False) w w' := by
  go_enter Tryd.func41, Tryd.ntmps41
  go_wp2
  refine bodyPost_ret (v := .agg #[.int .i64 3, .string s]) (by simp [results, Tryd.results41, go_sem]) rfl ⟨rfl, (Mod.refl _ w).alloc _⟩
theorem Rd.newsZ (w : World) (us : List Value) (e : TypeId) (fz : Nat × Nat) {g : Nat} (hg : g = w.heap.size := by first | rfl | simp) : Rd (w.alloc (.cells us.toArray e fz)) (some ⟨g, 0, none⟩) us := by
  subst hg
  intro i x hi
  refine ⟨_, _, rfl, ?_⟩
  rw [cell_of_row _ w.heap.size _ us.toArray e fz (heap_alloc_new w _)]
  simpa using hi
theorem awake_true (w : World) (hT : Lib.Utf8Tabs 1 2 w) : Calls Tryd.prog 8 #[] w fun e w' => e = .returned (.bool true) ∧ Mod (fun _ => False) w w' := by
  have HP := Lib.hid (fun a c W => parse_says awakeL 38 rfl (by omega) a c W)
  rw [awake_reads] at HP
  unfold PSay at HP
  simp only [noOf, atOf, valOf] at HP
  have HT := Lib.hid hT
  have HN := Lib.hid law8Num_any
  clear hT
  have kc := fun (w : World) (C : Array Value) (n c : Nat) => Lib.run_convert_bytes_const (P := Tryd.prog) w 22 5 C n c Tryd.underlying22 Tryd.underlying5
  go_enter Tryd.func8, Tryd.ntmps8
  go_wp2_with fail
  clear kc
  refine (HP.out _ _ _ (Rd.newsZ w (bts awakeL) _ (_, _)) (tabs_mod HT.out ((Mod.refl _ w).alloc _))).mono ?_
  rintro e w1 ⟨s, rfl, hs, hM⟩
  have HS := Lib.hid hs
  obtain ⟨a1, c1, _, rfl, _⟩ := hs
  simp only [List.length_cons, List.length_nil, Nat.zero_add] at HS ⊢
  have hm0 : Mod (fun _ => False) w w1 := ((Mod.refl _ w).alloc _).trans hM
  have HB1 := Lib.hid (heap_alloc_new w1 (.cells #[.slice a1 1 c1] 33))
  have HM1 := Lib.hid (Mod.refl (fun _ => False) (w1.alloc (.cells #[.slice a1 1 c1] 33)))
  have HM0 := Lib.hid (hm0.alloc (.cells #[.slice a1 1 c1] 33))
  have HS0 := Lib.hid (HS.out.mod0 ((Mod.refl (fun _ => False) w1).alloc (.cells #[.slice a1 1 c1] 33)))
  clear hM hm0 HP HT
  go_wp2_with fail
  refine (v_any _ _).mono ?_
  rintro e w2 ⟨rfl, hM2⟩
  have HM2 := Lib.hid (HM1.out.trans hM2); clear hM2
  go_wp2_with fail
  refine (c_any _ _).mono ?_
  rintro e w3 ⟨rfl, hM3⟩
  have HM3 := Lib.hid (HM2.out.trans hM3); clear hM3
  go_wp2_with fail
  refine (c_any _ _).mono ?_
  rintro e w4 ⟨rfl, hM4⟩
  have HM4 := Lib.hid (HM3.out.trans hM4); clear hM4 HM3 HM2
  go_wp2_with fail
  refine (v_any _ _).mono ?_
  rintro e w5 ⟨rfl, hM5⟩
  have HA := Lib.hid (show TsAt w5 (.slice (some ⟨w4.heap.size, 0, none⟩) 4 4) awakeR.head.terms from TsAt.mod0 (w := w4.alloc (.cells (tmsC awakeR.head.terms).toArray 72)) ⟨_, _, rfl, Rd.news w4 (tmsC awakeR.head.terms) _⟩ hM5)
  have HM5 := Lib.hid ((HM4.out.alloc _).trans hM5); clear hM5 HM4
  go_wp2_with fail
  refine (v_any _ _).mono ?_
  rintro e w6 ⟨rfl, hM6⟩
  have HBt := Lib.hid (show TsAt w6 (.slice (some ⟨w5.heap.size, 0, none⟩) 1 1) [⟨1, ⟨#[88]⟩⟩] from TsAt.mod0 (w := w5.alloc (.cells (tmsC [⟨1, ⟨#[88]⟩⟩]).toArray 72)) ⟨_, _, rfl, Rd.news w5 (tmsC [⟨1, ⟨#[88]⟩⟩]) _⟩ hM6)
  have HA6 := Lib.hid (HA.out.mod0 (((Mod.refl (fun _ => False) w5).alloc _).trans hM6))
  have HM6 := Lib.hid ((HM5.out.alloc _).trans hM6); clear hM6 HM5 HA
  go_wp2_with fail
  refine (c_any _ _).mono ?_
  rintro e w7 ⟨rfl, hM7⟩
  have HM7 := Lib.hid (HM6.out.trans hM7)
  have HA7 := Lib.hid (HA6.out.mod0 hM7)
  have HB7 := Lib.hid (HBt.out.mod0 hM7)
  clear hM7 HM6 HA6 HBt
  have hmC : Mod (fun _ => False) w7 (w7.alloc (.cells #[.int .i64 1, .string ⟨#[113]⟩, .slice (some ⟨w5.heap.size, 0, none⟩) 1 1, .int .i64 0, .int .i64 0, .string ⟨#[]⟩, .int .i64 0, .string ⟨#[]⟩, .int .i64 2, .string ⟨#[114]⟩, .slice none 0 0, .int .i64 0, .int .i64 0, .string ⟨#[]⟩, .int .i64 0, .string ⟨#[]⟩, .int .i64 3, .string ⟨#[]⟩, .slice none 0 0, .int .i64 3, .int .i64 1, .string ⟨#[88]⟩, .int .i64 3, .string ⟨#[49, 48]⟩] 74)) := (Mod.refl _ w7).alloc _
  have hmR : Mod (fun _ => False) (w7.alloc (.cells #[.int .i64 1, .string ⟨#[113]⟩, .slice (some ⟨w5.heap.size, 0, none⟩) 1 1, .int .i64 0, .int .i64 0, .string ⟨#[]⟩, .int .i64 0, .string ⟨#[]⟩, .int .i64 2, .string ⟨#[114]⟩, .slice none 0 0, .int .i64 0, .int .i64 0, .string ⟨#[]⟩, .int .i64 0, .string ⟨#[]⟩, .int .i64 3, .string ⟨#[]⟩, .slice none 0 0, .int .i64 3, .int .i64 1, .string ⟨#[88]⟩, .int .i64 3, .string ⟨#[49, 48]⟩] 74)) ((w7.alloc (.cells #[.int .i64 1, .string ⟨#[113]⟩, .slice (some ⟨w5.heap.size, 0, none⟩) 1 1, .int .i64 0, .int .i64 0, .string ⟨#[]⟩, .int .i64 0, .string ⟨#[]⟩, .int .i64 2, .string ⟨#[114]⟩, .slice none 0 0, .int .i64 0, .int .i64 0, .string ⟨#[]⟩, .int .i64 0, .string ⟨#[]⟩, .int .i64 3, .string ⟨#[]⟩, .slice none 0 0, .int .i64 3, .int .i64 1, .string ⟨#[88]⟩, .int .i64 3, .string ⟨#[49, 48]⟩] 74)).alloc (.cells #[.string ⟨#[112]⟩, .slice (some ⟨w4.heap.size, 0, none⟩) 4 4, .slice (some ⟨w7.heap.size, 0, none⟩) 3 3] 42)) := (Mod.refl _ _).alloc _
  have hmW : Mod (fun _ => False) w7 ((w7.alloc (.cells #[.int .i64 1, .string ⟨#[113]⟩, .slice (some ⟨w5.heap.size, 0, none⟩) 1 1, .int .i64 0, .int .i64 0, .string ⟨#[]⟩, .int .i64 0, .string ⟨#[]⟩, .int .i64 2, .string ⟨#[114]⟩, .slice none 0 0, .int .i64 0, .int .i64 0, .string ⟨#[]⟩, .int .i64 0, .string ⟨#[]⟩, .int .i64 3, .string ⟨#[]⟩, .slice none 0 0, .int .i64 3, .int .i64 1, .string ⟨#[88]⟩, .int .i64 3, .string ⟨#[49, 48]⟩] 74)).alloc (.cells #[.string ⟨#[112]⟩, .slice (some ⟨w4.heap.size, 0, none⟩) 4 4, .slice (some ⟨w7.heap.size, 0, none⟩) 3 3] 42)) := hmC.trans hmR
  have x1 : ((w7.alloc (.cells #[.int .i64 1, .string ⟨#[113]⟩, .slice (some ⟨w5.heap.size, 0, none⟩) 1 1, .int .i64 0, .int .i64 0, .string ⟨#[]⟩, .int .i64 0, .string ⟨#[]⟩, .int .i64 2, .string ⟨#[114]⟩, .slice none 0 0, .int .i64 0, .int .i64 0, .string ⟨#[]⟩, .int .i64 0, .string ⟨#[]⟩, .int .i64 3, .string ⟨#[]⟩, .slice none 0 0, .int .i64 3, .int .i64 1, .string ⟨#[88]⟩, .int .i64 3, .string ⟨#[49, 48]⟩] 74)).alloc (.cells #[.string ⟨#[112]⟩, .slice (some ⟨w4.heap.size, 0, none⟩) 4 4, .slice (some ⟨w7.heap.size, 0, none⟩) 3 3] 42)).cell? ⟨w1.heap.size, 0, none⟩ = some (.slice a1 1 c1) := (HM7.out.trans hmW).cell (cell_at HB1.out rfl) id
  have hbR : ((w7.alloc (.cells #[.int .i64 1, .string ⟨#[113]⟩, .slice (some ⟨w5.heap.size, 0, none⟩) 1 1, .int .i64 0, .int .i64 0, .string ⟨#[]⟩, .int .i64 0, .string ⟨#[]⟩, .int .i64 2, .string ⟨#[114]⟩, .slice none 0 0, .int .i64 0, .int .i64 0, .string ⟨#[]⟩, .int .i64 0, .string ⟨#[]⟩, .int .i64 3, .string ⟨#[]⟩, .slice none 0 0, .int .i64 3, .int .i64 1, .string ⟨#[88]⟩, .int .i64 3, .string ⟨#[49, 48]⟩] 74)).alloc (.cells #[.string ⟨#[112]⟩, .slice (some ⟨w4.heap.size, 0, none⟩) 4 4, .slice (some ⟨w7.heap.size, 0, none⟩) 3 3] 42)).heap[w7.heap.size + 1]? = some (.cells #[.string ⟨#[112]⟩, .slice (some ⟨w4.heap.size, 0, none⟩) 4 4, .slice (some ⟨w7.heap.size, 0, none⟩) 3 3] 42 (0, 0)) := by
    have := heap_alloc_new (w7.alloc (.cells #[.int .i64 1, .string ⟨#[113]⟩, .slice (some ⟨w5.heap.size, 0, none⟩) 1 1, .int .i64 0, .int .i64 0, .string ⟨#[]⟩, .int .i64 0, .string ⟨#[]⟩, .int .i64 2, .string ⟨#[114]⟩, .slice none 0 0, .int .i64 0, .int .i64 0, .string ⟨#[]⟩, .int .i64 0, .string ⟨#[]⟩, .int .i64 3, .string ⟨#[]⟩, .slice none 0 0, .int .i64 3, .int .i64 1, .string ⟨#[88]⟩, .int .i64 3, .string ⟨#[49, 48]⟩] 74)) (.cells #[.string ⟨#[112]⟩, .slice (some ⟨w4.heap.size, 0, none⟩) 4 4, .slice (some ⟨w7.heap.size, 0, none⟩) 3 3] 42)
    simpa using this
  have HLT := Lib.hid (show LsAt ((w7.alloc (.cells #[.int .i64 1, .string ⟨#[113]⟩, .slice (some ⟨w5.heap.size, 0, none⟩) 1 1, .int .i64 0, .int .i64 0, .string ⟨#[]⟩, .int .i64 0, .string ⟨#[]⟩, .int .i64 2, .string ⟨#[114]⟩, .slice none 0 0, .int .i64 0, .int .i64 0, .string ⟨#[]⟩, .int .i64 0, .string ⟨#[]⟩, .int .i64 3, .string ⟨#[]⟩, .slice none 0 0, .int .i64 3, .int .i64 1, .string ⟨#[88]⟩, .int .i64 3, .string ⟨#[49, 48]⟩] 74)).alloc (.cells #[.string ⟨#[112]⟩, .slice (some ⟨w4.heap.size, 0, none⟩) 4 4, .slice (some ⟨w7.heap.size, 0, none⟩) 3 3] 42)) (.slice (some ⟨w7.heap.size, 0, none⟩) 3 3) awakeR.body from LsAt.mod0 ⟨_, _, [(⟨1, ⟨⟨#[113]⟩, [⟨1, ⟨#[88]⟩⟩]⟩, 0, ⟨0, ⟨#[]⟩⟩, ⟨0, ⟨#[]⟩⟩⟩, .slice (some ⟨w5.heap.size, 0, none⟩) 1 1), (⟨2, ⟨⟨#[114]⟩, []⟩, 0, ⟨0, ⟨#[]⟩⟩, ⟨0, ⟨#[]⟩⟩⟩, .slice none 0 0), (⟨3, ⟨⟨#[]⟩, []⟩, 3, ⟨1, ⟨#[88]⟩⟩, ⟨3, ⟨#[49, 48]⟩⟩⟩, .slice none 0 0)], rfl, rfl, Rd.news w7 _ _, by
      intro x hx
      simp only [List.mem_cons, List.not_mem_nil, or_false] at hx
      rcases hx with rfl | rfl | rfl
      · exact HB7.out.mod0 hmC
      · exact tsAt_nil _
      · exact tsAt_nil _⟩ hmR)
  have HTT := Lib.hid (HA7.out.mod0 hmW)
  have HBR := Lib.hid hbR
  have HMW := Lib.hid (HM7.out.trans hmW)
  clear hmC hmR hmW hbR HA7 HB7
  go_wp2_with fail
  generalize ((w7.alloc (.cells #[.int .i64 1, .string ⟨#[113]⟩, .slice (some ⟨w5.heap.size, 0, none⟩) 1 1, .int .i64 0, .int .i64 0, .string ⟨#[]⟩, .int .i64 0, .string ⟨#[]⟩, .int .i64 2, .string ⟨#[114]⟩, .slice none 0 0, .int .i64 0, .int .i64 0, .string ⟨#[]⟩, .int .i64 0, .string ⟨#[]⟩, .int .i64 3, .string ⟨#[]⟩, .slice none 0 0, .int .i64 3, .int .i64 1, .string ⟨#[88]⟩, .int .i64 3, .string ⟨#[49, 48]⟩] 74)).alloc (.cells #[.string ⟨#[112]⟩, .slice (some ⟨w4.heap.size, 0, none⟩) 4 4, .slice (some ⟨w7.heap.size, 0, none⟩) 3 3] 42)) = W at *
  refine (May_any [awakeR] _ W awake_small (HS0.out.mod0 HMW.out)).mono ?_
  rintro e w8 ⟨rfl, hM8⟩
  rw [awake_may]
  have x1' := hM8.cell x1 id
  have hb8 := hM8.at HBR.out id
  have r0 := cell_at (j := 0) hb8 rfl
  have r1 := cell_at (j := 1) hb8 rfl
  have r2 := cell_at (j := 2) hb8 rfl
  have hmD : Mod (fun _ => False) w8 (w8.alloc (.cells #[.string ⟨#[112]⟩, .slice (some ⟨w4.heap.size, 0, none⟩) 4 4, .slice (some ⟨w7.heap.size, 0, none⟩) 3 3] 42)) := (Mod.refl _ w8).alloc _
  have HQ := Lib.hid (law8Prog_true [awakeR] (.slice a1 1 c1) (.slice (some ⟨w8.heap.size, 0, none⟩) 1 1) (w8.alloc (.cells #[.string ⟨#[112]⟩, .slice (some ⟨w4.heap.size, 0, none⟩) 4 4, .slice (some ⟨w7.heap.size, 0, none⟩) 3 3] 42)) ((HS0.out.mod0 HMW.out).mod0 (hM8.trans hmD))
    ⟨_, _, [(awakeR, .slice (some ⟨w4.heap.size, 0, none⟩) 4 4, .slice (some ⟨w7.heap.size, 0, none⟩) 3 3)], rfl, rfl, Rd.news w8 _ _, by
      intro x hx
      simp only [List.mem_cons, List.not_mem_nil, or_false] at hx
      subst hx
      exact ⟨HTT.out.mod0 (hM8.trans hmD), HLT.out.mod0 (hM8.trans hmD)⟩⟩ (by simp) (fun r hr => (prog_small awake_reads).2 r hr |>.smR))
  have HM8 := Lib.hid (HMW.out.trans (hM8.trans hmD))
  clear hM8 hb8 hmD x1
  go_wp2_with (first
    | (go_at_call 43; refine (HN.out _ _).mono ?_; rintro e w' ⟨rfl, rfl⟩))
  refine HQ.out.mono ?_
  rintro e w9 ⟨rfl, hM9⟩
  have HM9 := Lib.hid (HM8.out.trans hM9)
  clear hM9 HQ
  go_wp2_with (first
    | (go_at_call 43; refine (HN.out _ _).mono ?_; rintro e w' ⟨rfl, rfl⟩))
  go_ret
  exact ⟨rfl, HM0.out.trans HM9.out⟩
end Go.Proofs.YteecbbnpgmceiaaDoor
