/-
  does: put.
-/
import Derived.Test.YtcmgeiohcgngeaaSymD1
namespace Go.Proofs.Ytcmgeiohcgngeaa
open Go Go.RowKit Go.Mine Go.Maps
set_option linter.unusedVariables false
set_option maxHeartbeats 8000000
set_option maxRecDepth 100000

theorem does_put {R : Ending → World → Prop} (pt pm : Option Addr) (wh N : Int) (ta : Option Addr) (tc : Nat) (xs : List ByteArray) (er : Int) (w : World) (F : Nat → Prop) (hF : ∀ b, F b → b < w.heap.size) (hta : ∀ b, blkX ta xs = some b → b < w.heap.size ∧ ¬ F b) (hR : Rd w ta (sts xs)) (hn : xs.length ≤ 2 ^ 20)
    (hP : ∀ W g c', Mod (fun _ => False) w W → w.heap.size ≤ g → g < W.heap.size → Rd W (some ⟨g, 0, none⟩) (sts xs) →
      Calls Try.prog 8 #[.pointer pt, .slice (some ⟨g, 0, none⟩) xs.length c'] W fun e w1 => ∃ oa no oc, e = .returned (.tuple #[.slice oa no oc, .int .i64 er]) ∧ Mod F W w1 ∧
        Calls Try.prog 17 #[.pointer pm, .slice ta xs.length tc] w1 fun e w2 => ∃ ob od ns, no = ns.length ∧ ns.length ≤ 2 ^ 20 ∧ e = .returned (.tuple #[.slice ob no od, .int .i64 er]) ∧ Mine.Own w2 3 1 oa ns.length oc (nums ns) ∧ Mine.Own w2 3 1 ob ns.length od (nums ns) ∧ Mod F W w2 ∧ (∀ b, blk oa = some b → W.heap.size ≤ b) ∧
          ∀ w3 S, Mod S w2 w3 → (∀ b, S b → b = g ∨ blk oa = some b) → R (.returned (.bool true)) w3) :
    Calls Try.prog 7 #[.pointer pt, .pointer pm, .agg #[.int .i64 1, .int .i64 wh, .slice ta xs.length tc, .int .i64 N]] w R := by
  have m0 : Mod (fun _ => False) w (w.alloc (.cells #[.int .i64 1, .int .i64 wh, .slice ta xs.length tc, .int .i64 N] 34)) := (Mod.refl _ w).alloc _
  have HBX := Lib.hid (heap_alloc_new w (.cells #[.int .i64 1, .int .i64 wh, .slice ta xs.length tc, .int .i64 N] 34))
  have HZ : Hid ((w.alloc (.cells #[.int .i64 1, .int .i64 wh, .slice ta xs.length tc, .int .i64 N] 34)).heap.size = w.heap.size + 1) := Lib.hid (by simp)
  have HM := Lib.hid m0; have HP := Lib.hid hP; have HR := Lib.hid hR; have HF := Lib.hid hF; have HTA := Lib.hid hta
  have HL := Lib.hid (lent_any ta tc xs _ (hR.mod m0 (fun _ _ => id)) (by omega))
  clear hP m0 hR hF hta
  go_enter Try.func7, Try.ntmps7
  go_wp2_with fail
  refine HL.out.mono ?_
  rintro e w1 ⟨g, c', rfl, hg, hc1, hO, hM1⟩
  have hmw : Mod (fun _ => False) w w1 := HM.out.trans hM1
  have hgl : g < w1.heap.size := hO.lt g rfl
  have hrd : Rd w1 (some ⟨g, 0, none⟩) (sts xs) := by
    have := hO.rd.take xs.length
    rw [sts_append, List.take_left' (by simp)] at this
    exact this
  have hgw : w.heap.size + 1 ≤ g := by have := HZ.out; omega
  have HPU := Lib.hid (HP.out w1 g c' hmw (by omega) hgl hrd)
  have hbx := hM1.at HBX.out id
  have HB1 := Lib.hid hbx; have HO1 := Lib.hid hO; have HM1 := Lib.hid hmw; have HGL := Lib.hid hgl; have HGW := Lib.hid hgw; have HC1 := Lib.hid hc1
  clear hM1 hmw hgl hrd hgw hg hc1 hO hbx HP HL HBX HM HZ
  go_wp2_with fail
  refine HPU.out.mono ?_
  rintro e w2 ⟨oa, no, oc, rfl, hM2, hRP⟩
  have hb2 := hM2.at HB1.out (fun h => by have := HF.out _ h; omega)
  have c2 : w2.cell? ⟨w.heap.size, 2, none⟩ = some (.slice ta xs.length tc) := cell_at hb2 rfl
  have HRP := Lib.hid hRP
  clear hM2 hRP hb2 HPU
  go_wp2_with fail
  refine HRP.out.mono ?_
  rintro e w3 ⟨ob, od, ns, rfl, hns, rfl, hg1, hg2, hM3, hoa, hfin⟩
  have hI := ints_same hg1 hg2 (by omega)
  have HI := Lib.hid hI; have HG1 := Lib.hid hg1; have HM3 := Lib.hid hM3; have HOA := Lib.hid hoa; have HFIN := Lib.hid hfin
  have hb3 := hM3.at HB1.out (fun h => by have := HF.out _ h; omega)
  have hO3 := HO1.out.mod hM3 (fun b hb h => by (obtain rfl : g = b := (by simpa using hb)); have := HF.out _ h; have := HGW.out; omega)
  have HB3 := Lib.hid hb3; have HO3 := Lib.hid hO3
  clear hI hg1 hg2 hM3 hoa hfin hb3 hO3 c2 HRP
  go_wp2_with fail
  refine HI.out.mono ?_
  rintro e w4 ⟨rfl, hM4⟩
  have hrt : Rd w4 ta (sts xs) := (rd_modX (HR.out.mod HM1.out (fun _ _ => id)) HM3.out (fun b hb => (HTA.out b hb).2)).mod hM4 (fun _ _ => id)
  have HK := Lib.hid (kept_true g c' ta tc xs w4 (HO3.out.mod hM4 (fun _ _ => id)) hrt (by omega) HC1.out)
  have hb4 := hM4.at HB3.out id
  have c2 : w4.cell? ⟨w.heap.size, 2, none⟩ = some (.slice ta xs.length tc) := cell_at hb4 rfl
  have HM4 := Lib.hid hM4
  clear hM4 hrt hb4 HI
  go_wp2_with fail
  refine HK.out.mono ?_
  rintro e w5 ⟨rfl, hM5⟩
  have HM5 := Lib.hid (HM4.out.trans hM5)
  have HSP := Lib.hid (spoilt_any (HG1.out.mod (HM4.out.trans hM5) (fun _ _ => id)) (by omega))
  clear hM5 HK c2 HM4
  go_wp2_with fail
  refine HSP.out.mono ?_
  rintro e w6 ⟨rfl, hM6⟩
  have hm6 : Mod (fun b => b = g ∨ blk oa = some b) w3 w6 := (HM5.out.mono (fun _ _ h => h.elim)).step hM6 (fun b _ h => .inr h)
  have hO6 : Mine.Own w6 9 1 (some ⟨g, 0, none⟩) (xs.length + 1) c' (sts (xs ++ [markS])) := (HO3.out.mod HM5.out (fun _ _ => id)).mod hM6 (fun b hb h => by (obtain rfl : g = b := (by simpa using hb)); have := HOA.out _ h; have := HGL.out; omega)
  have HO6 := Lib.hid hO6; have HM6 := Lib.hid hm6
  clear hM6 hm6 hO6 HSP
  go_wp2_with fail
  go_loopw [13] (fun iv wr => ∃ k : Nat, iv = .int .i64 k ∧ k ≤ xs.length ∧ Hid (∃ vs, Mine.Own wr 9 1 (some ⟨g, 0, none⟩) (xs.length + 1) c' vs) ∧ Hid (Mod (fun b => b = g ∨ blk oa = some b) w3 wr)) (fun iv _ => xs.length - (intOf iv).toNat)
  case atStart => exact ⟨0, rfl, Nat.zero_le _, Lib.hid ⟨_, HO6.out⟩, HM6⟩
  case round =>
    obtain ⟨k, rfl, hk, hO, hM⟩ := hrel
    by_cases hlt : k < xs.length
    · obtain ⟨vs, ho⟩ := hO.out
      have hlv := ho.1
      have hx : ∃ u, wr.cell? ⟨g, k, none⟩ = some u := by
        obtain ⟨b', o, e, hc⟩ := ho.rd k (vs[k]'(by omega)) (List.getElem?_eq_getElem (by omega))
        cases e
        rw [Nat.zero_add] at hc
        exact ⟨_, hc⟩
      obtain ⟨u, x0⟩ := hx
      have f0 : wr.frozen? ⟨g, k, none⟩ = false := ho.frozen (b := g) (o := k) rfl
      have HS := Lib.hid (ho.store k (.string { data := #[103, 111, 110, 101] }))
      have HM2 := Lib.hid (hM.out.setCell (p := ⟨g, k, none⟩) (fun _ => .inl rfl) (.string { data := #[103, 111, 110, 101] }))
      have hkc : k < c' := by have := HC1.out; omega
      clear ho hlv hM hO
      go_wp2_with fail
      go_roundw
      case rel => exact ⟨k + 1, by go_num, hlt, Lib.hid ⟨_, HS.out⟩, HM2⟩
      case measure => simp [intOf]; omega
    · obtain rfl : k = xs.length := by omega
      have HRR := Lib.hid (HFIN.out wr _ hM.out (fun b h => h))
      clear hO hM
      go_wp2_with fail
      exact HRR.out
end Go.Proofs.Ytcmgeiohcgngeaa
