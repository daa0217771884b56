/-
  PrintTidies, walked.
-/
import Derived.Test.YteecbbnpgmceiaaGreatDoorTidR
import Derived.Test.YteecbbnpgmceiaaGreatDoorKeptQ
import Derived.Test.YteecbbnpgmceiaaGreatDoorSame9
import Derived.Test.YteecbbnpgmceiaaGreatDoorKnow9
namespace Go.Proofs.YteecbbnpgmceiaaGreatDoor
open Go Go.RowKit Go.Mine
set_option linter.unusedVariables false
set_option maxHeartbeats 4000000
set_option maxRecDepth 100000

theorem insT_mem {xs : List Wn} {t x : Wn} (h : x ∈ insT xs t) : x = t ∨ x ∈ xs := by
  unfold insT at h
  split at h
  · exact .inr h
  · rcases List.mem_append.1 h with h | h
    · exact .inr (List.mem_of_mem_take h)
    · rcases List.mem_cons.1 h with h | h
      · exact .inl h
      · exact .inr (List.mem_of_mem_drop h)
theorem tidyGo_mem : ∀ {rs : List Rm} {xs ys : List Wn}, tidyGo xs rs = .ok ys → ∀ y ∈ ys, y ∈ xs ∨ ∃ r ∈ rs, y = txW r
  | [], xs, ys, h, y, hy => by cases h; exact .inl hy
  | r :: rs, xs, ys, h, y, hy => by
    rw [tidyGo] at h
    split at h
    · cases h
    · rcases tidyGo_mem h y hy with h1 | ⟨q, hq, e⟩
      · rcases insT_mem h1 with h2 | h2
        · exact .inr ⟨r, List.mem_cons_self .., h2⟩
        · exact .inl h2
      · exact .inr ⟨q, List.mem_cons_of_mem _ hq, e⟩
/-- what is tidy may be -/
theorem tidy_may (rs : List Rm) : (tidR (tidyL rs)).length ≤ 1024 ∧ ∀ n ∈ tidR (tidyL rs), mayRm n = 0 ∧ ∃ r ∈ rs, n = nmRm r := by
  cases h : tidyL rs with
  | error e => exact ⟨by show ([] : List Rm).length ≤ 1024; simp, fun n hn => by cases hn⟩
  | ok xs =>
    unfold tidyL at h
    split at h
    · cases h
    · rename_i hm
      have hm0 : mayPm rs = 0 := by simpa using hm
      obtain ⟨hl, ha⟩ := mayRs_each hm0
      have h1 := tidyGo_len h
      simp only [List.length_nil] at h1
      refine ⟨by show (xs.map (·.2)).length ≤ 1024; rw [List.length_map]; omega, fun n hn => ?_⟩
      obtain ⟨x, hx, rfl⟩ := List.mem_map.1 (show n ∈ xs.map (·.2) from hn)
      rcases tidyGo_mem h x hx with h2 | ⟨r, hr, rfl⟩
      · cases h2
      · exact ⟨(normal_law (ha r hr) (few_nm (ha r hr))).1, r, hr, rfl⟩
theorem tidy_small (rs : List Rm) : SmallPm (tidR (tidyL rs)) := ⟨by have := (tidy_may rs).1; omega, fun n hn => small_may ((tidy_may rs).2 n hn).1⟩
theorem OwnP.rsAtT {w : World} {lo : Nat} {rs : List Rm} {gp cp : Nat} {ys : List Yr} (h : OwnP w lo rs gp cp ys) : RsAt w (.slice (some ⟨gp, 0, none⟩) rs.length cp) rs := by
  refine ⟨_, _, ys.map yV, rfl, ?_, h.at, ?_⟩
  · rw [← h.hy, List.map_map]; rfl
  · intro x hx
    obtain ⟨y, hy, rfl⟩ := List.mem_map.1 hx
    exact ⟨(h.each y hy).head.at, (h.each y hy).lsAt⟩
/-- a text that may be too long: what its error says of it -/
theorem tidies_walk (rs : List Rm) (v0 : Value) (w : World) (hr : RsAt w v0 rs) (hs : SmallPm rs) (hpw : Pow w) :
    Calls Tryz.prog 3 #[.agg #[v0]] w fun e w' => e = .returned (.bool true) ∧ Mod (fun _ => False) w w' := by
  obtain ⟨ad, c, xv, rfl, _⟩ := id hr
  have hm0 : Mod (fun _ => False) w (w.alloc (.cells #[.slice ad rs.length c] 24)) := (Mod.refl _ w).alloc _
  have HA := Lib.hid (ownProgram_any rs _ _ (hr.mod0 hm0) hs)
  have HM0 := Lib.hid hm0; have HRS := Lib.hid hr; have HSM := Lib.hid hs; have HPW := Lib.hid hpw
  have HB0 := Lib.hid (heap_alloc_new w (.cells #[.slice ad rs.length c] 24))
  have HTS := Lib.hid (tidy_small rs)
  clear hr hs hpw hm0
  have c0 := cell_at (j := 0) HB0.out rfl
  go_enter Tryz.func3, Tryz.ntmps3
  go_wp2_with fail
  generalize (w.alloc (.cells #[.slice ad rs.length c] 24)) = w0 at *
  refine HA.out.mono ?_
  rintro e w1 ⟨gp, cp, ys, rfl, hO, hM1⟩
  have hhi : ∀ y ∈ ys, ∀ b ∈ y.gh :: y.gb :: blks y.xs, b < w1.heap.size := fun y hy => (hO.each y hy).blkLt
  have m2 : Mod (fun _ => False) w1 (w1.alloc (.cells #[.slice (some ⟨gp, 0, none⟩) rs.length cp] 24)) := (Mod.refl _ w1).alloc _
  have HO2 := Lib.hid (hO.mod m2 (fun _ _ => id))
  have HB1 := Lib.hid (heap_alloc_new w1 (.cells #[.slice (some ⟨gp, 0, none⟩) rs.length cp] 24))
  have HHI := Lib.hid hhi
  have HM2 := Lib.hid (hM1.trans m2)
  have HM12 := Lib.hid m2
  have hsz2 : (w1.alloc (.cells #[.slice (some ⟨gp, 0, none⟩) rs.length cp] 24)).heap.size = w1.heap.size + 1 := by simp
  have HSZ2 := Lib.hid hsz2
  clear hO hM1 m2 c0 HA hhi hsz2
  have c1 := cell_at (j := 0) HB1.out rfl
  go_wp2_with fail
  generalize (w1.alloc (.cells #[.slice (some ⟨gp, 0, none⟩) rs.length cp] 24)) = w2 at *
  refine (Tidy_any rs _ w2 HSM.out HO2.out.rsAtT (HPW.out.mod0 (HM0.out.trans HM2.out))).mono ?_
  rintro e w3 ⟨t, rfl, hT, hM3⟩
  have m4 : Mod (fun _ => False) w3 (w3.alloc (.cells #[t] 24)) := (Mod.refl _ w3).alloc _
  have HT4 := Lib.hid (hT.step m4 (fun _ _ => id))
  have HB3 := Lib.hid (heap_alloc_new w3 (.cells #[t] 24))
  have HM4 := Lib.hid (hM3.trans m4)
  have HM3 : Hid (w2.heap.size ≤ w3.heap.size) := hM3.size
  obtain ⟨ta, tc, _, rfl, _⟩ := hT
  clear hM3 m4 c1
  have c0 := cell_at (j := 0) ((HM2.out.trans HM4.out).at HB0.out id) rfl
  go_wp2_with fail
  generalize hw4 : (w3.alloc (.cells #[.slice ta (tidR (tidyL rs)).length tc] 24)) = w4 at *
  clear hw4
  refine (refTidy_any rs _ w4 HSM.out (HRS.out.mod0 (HM0.out.trans (HM2.out.trans HM4.out)))).mono ?_
  rintro e w5 ⟨u, rfl, hU, hM5⟩
  have m6 : Mod (fun _ => False) w5 (w5.alloc (.cells #[u] 24)) := (Mod.refl _ w5).alloc _
  have HU6 := Lib.hid (hU.step m6 (fun _ _ => id))
  have HB5 := Lib.hid (heap_alloc_new w5 (.cells #[u] 24))
  have HM6 := Lib.hid (hM5.trans m6)
  have HM5 : Hid (w4.heap.size ≤ w5.heap.size) := hM5.size
  obtain ⟨ua, uc, _, rfl, _⟩ := hU
  clear hM5 m6 c0
  have HMA := Lib.hid (HM2.out.trans (HM4.out.trans HM6.out))
  have b0 := HMA.out.at HB0.out id
  have b1 := (HM4.out.trans HM6.out).at HB1.out id
  have b3 := HM6.out.at HB3.out id
  have b5 := HB5.out
  have HT6 := Lib.hid (HT4.out.step HM6.out (fun _ _ => id))
  have HO6 := Lib.hid (HO2.out.mod (HM4.out.trans HM6.out) (fun _ _ => id))
  have hz24 := HM4.out.size; have hz46 := HM6.out.size; have hz02 := HM2.out.size; have hz1 := HSZ2.out
  have hz3 := (Array.getElem?_eq_some_iff.1 HB3.out).1
  generalize hTQ : tidR (tidyL rs) = qs at *
  generalize tidE (tidyL rs) = ev at *
  clear hTQ
  have d0 := cell_at (j := 0) b0 rfl; have d1 := cell_at (j := 0) b1 rfl; have d3 := cell_at (j := 0) b3 rfl; have d5 := cell_at (j := 0) b5 rfl
  have HB0 := Lib.hid b0; have HB1 := Lib.hid b1; have HB3 := Lib.hid b3; have HB5 := Lib.hid b5
  clear b0 b1 b3 b5
  go_wp2_with (first
    | (go_at_call 10; refine (num9_any _ _).mono ?_; rintro e w' ⟨rfl, rfl⟩))
  generalize hw6 : (w5.alloc (.cells #[.slice ua qs.length uc] 24)) = w6 at *
  clear hw6
  refine (same9_true qs _ _ w6 HT6.out.at HU6.out.at HTS.out).mono ?_
  rintro e w7 ⟨rfl, hM7⟩
  have HM7 := Lib.hid hM7
  have d0 := hM7.cell d0 id; have d1 := hM7.cell d1 id
  clear hM7 d3 d5
  go_wp2_with fail
  refine (keptProgram_hi w1.heap.size rs _ (w0.heap.size + 2) gp cp ys w0 w7 (HMA.out.trans HM7.out) (by omega) (HO6.out.mod HM7.out (fun _ _ => id)) (HRS.out.mod0 HM0.out) HSM.out (by have := HM7.out.size; omega) HHI.out).mono ?_
  rintro e w8 ⟨rfl, hM8⟩
  have hT8 := (HT6.out.step HM7.out (fun _ _ => id)).step hM8 (fun b hb e => by obtain ⟨_, e2⟩ := e; omega)
  have hU8 := (HU6.out.step HM7.out (fun _ _ => id)).step hM8 (fun b hb e => by obtain ⟨_, e2⟩ := e; omega)
  have HT8 := Lib.hid hT8; have HU8 := Lib.hid hU8; have HM8 := Lib.hid hM8
  have d3 := cell_at (j := 0) (hM8.at (HM7.out.at HB3.out id) (fun e => by obtain ⟨_, e2⟩ := e; have h3 := HM3.out; omega)) rfl
  have d5 := cell_at (j := 0) (hM8.at (HM7.out.at HB5.out id) (fun e => by obtain ⟨_, e2⟩ := e; have h5 := HM5.out; omega)) rfl
  clear hT8 hU8 hM8 d0 d1
  go_wp2_with fail
  refine (same9_true qs _ _ w8 HT8.out.at HU8.out.at HTS.out).mono ?_
  rintro e w9 ⟨rfl, hM9⟩
  have HM9 := Lib.hid hM9
  clear hM9 d3 d5
  go_wp2_with fail
  go_ret
  have h1 : Mod (fun b => w0.heap.size ≤ b) w0 w8 := ((HMA.out.trans HM7.out).mono (fun _ _ f => f.elim)).step HM8.out (fun i hi e => by omega)
  exact ⟨rfl, (HM0.out.step h1 (fun i hi e => by have := HM0.out.size; omega)).trans HM9.out⟩
end Go.Proofs.YteecbbnpgmceiaaGreatDoor
