/- LexScans answers true of any bytes of bulk at most 1048576, where the tables of utf8 lie. -/
import Derived.Test.YtgfekdebjafodaaDoorLexLaw
namespace Go.Proofs.YtgfekdebjafodaaDoor
open Go Go.RowKit Go.Mine
set_option maxHeartbeats 4000000
set_option maxRecDepth 100000
set_option linter.unusedVariables false

theorem scanR_len (r : List Tok × Nat × Nat) : (scanR r).1.length ≤ r.1.length := by unfold scanR; split <;> simp
/-- what Scan and its reference answer: the tokens, the place, the error -/
def ScanSays (e : Ending) (w w' : World) (T : TypeId) (R : List Tok × Nat × Nat) : Prop :=
  ∃ (a' : Option Addr) (c' : Nat), e = .returned (.tuple #[.slice a' R.1.length c', .int .i64 R.2.1, .int .i64 R.2.2]) ∧ Mine.Own w' T 3 a' R.1.length c' (toksC R.1) ∧ Mod (fun _ => False) w w' ∧ (∀ b, blk a' = some b → w.heap.size ≤ b)
theorem scan_says (l : List UInt8) (n : Nat) (hl : l.length = n) (hn : n ≤ 2 ^ 29) : ∀ (a : Option Addr) (c : Nat) (w : World), Rd w a (bts l) → Lib.Utf8Tabs 1 2 w →
    Calls Tryd.prog 14 #[.slice a n c] w fun e w' => ScanSays e w w' 32 (scanR (foundL ⟨l.toArray⟩)) := by
  subst hl
  exact fun a c w h hT => scan_any a c l w h hT (by omega)
theorem refScan_says (l : List UInt8) (n : Nat) (hl : l.length = n) (hn : n ≤ 2 ^ 29) : ∀ (a : Option Addr) (c : Nat) (w : World), Rd w a (bts l) →
    Calls Tryd.prog 15 #[.slice a n c] w fun e w' => ScanSays e w w' 36 (scanR (foundL ⟨l.toArray⟩)) := by
  subst hl
  exact fun a c w h => refScan_any a c l w h (by omega)
theorem scan_few (l : List UInt8) (n : Nat) (hl : l.length = n) : (scanR (foundL ⟨l.toArray⟩)).1.length ≤ n + 1 := by
  subst hl
  exact Nat.le_trans (scanR_len _) (foundL_len ⟨l.toArray⟩)

theorem lexScans_walk (a : Option Addr) (c : Nat) (l : List UInt8) (w : World) (hr : Rd w a (bts l)) (hT : Lib.Utf8Tabs 1 2 w) (hn : l.length ≤ 1048576) :
    Calls Tryd.prog 4 #[.slice a l.length c] w fun e w' => e = .returned (.bool true) ∧ Mod (fun _ => False) w w' := by
  have HR := Lib.hid hr; clear hr
  have HT := Lib.hid hT; clear hT
  have HN := Lib.hid num_any
  have HTK := Lib.hid tokens_true
  have hlz : (List.replicate l.length (122 : UInt8)).length = l.length := List.length_replicate
  have HS1 := Lib.hid (scan_says l l.length rfl (by omega))
  have HF1 := Lib.hid (refScan_says l l.length rfl (by omega))
  have HS2 := Lib.hid (scan_says (List.replicate l.length 122) l.length hlz (by omega))
  have HF2 := Lib.hid (refScan_says (List.replicate l.length 122) l.length hlz (by omega))
  have hl1 := scan_few l l.length rfl
  have hl2 := scan_few (List.replicate l.length 122) l.length hlz
  clear hlz
  generalize scanR (foundL ⟨l.toArray⟩) = R1 at *
  generalize scanR (foundL ⟨(List.replicate l.length 122).toArray⟩) = R2 at *
  obtain ⟨t1, p1, e1⟩ := R1
  obtain ⟨t2, p2, e2⟩ := R2
  simp only at hl1 hl2
  unfold ScanSays at HS1 HF1 HS2 HF2
  simp only at HS1 HF1 HS2 HF2
  go_enter Tryd.func4, Tryd.ntmps4
  go_wp2_with fail
  refine (lentB_any a c l w HR.out (by omega)).mono ?_
  rintro e w1 ⟨g, c1, rfl, hg, hgc, hO1, hM1⟩
  have HO1 := Lib.hid hO1; have HM1 := Lib.hid hM1; have HG := Lib.hid hg
  have hglt := hO1.lt g rfl
  clear hO1 hM1 hg
  go_wp2_with fail
  refine (HS1.out _ c1 w1 (Own.bytes HO1.out) (tabs_mod HT.out HM1.out)).mono ?_
  rintro e w2 ⟨a2, c2, rfl, hO2, hM2, hF2⟩
  have HM2 := Lib.hid (HM1.out.trans hM2)
  have HO1' := Lib.hid (HO1.out.mod hM2 (fun _ _ => id))
  have HO2 := Lib.hid hO2; have HFr2 := Lib.hid hF2
  have hsz2 := hM2.size
  clear hO2 hM2 hF2 HO1
  go_wp2_with fail
  refine (HF1.out a c w2 (HR.out.mod HM2.out (fun _ _ => id))).mono ?_
  rintro e w3 ⟨a3, c3, rfl, hO3, hM3, hF3⟩
  have HM3 := Lib.hid (HM2.out.trans hM3)
  have HO1 := Lib.hid (HO1'.out.mod hM3 (fun _ _ => id))
  have HO2' := Lib.hid (HO2.out.mod hM3 (fun _ _ => id))
  have HO3 := Lib.hid hO3; have HFr3 := Lib.hid hF3
  have hsz3 := hM3.size
  clear hO3 hM3 hF3 HO1' HO2
  go_wp2_with fail
  refine (keptB_true g c1 a c l w3 HO1.out (HR.out.mod HM3.out (fun _ _ => id)) (by omega)).mono ?_
  rintro e w4 ⟨rfl, hO4, hM4⟩
  have HO4 := Lib.hid hO4
  have HM4 : Hid (Mod (fun _ => False) w w4) := HM3.out.step hM4 (fun i hi hs => by have := HG.out; omega)
  have HO2 := Lib.hid (HO2'.out.mod hM4 (fun b hb e => by subst e; have := HFr2.out _ hb; omega))
  have HO3' := Lib.hid (HO3.out.mod hM4 (fun b hb e => by subst e; have := HFr3.out _ hb; omega))
  have hsz4 := hM4.size
  clear hO4 hM4 HO2' HO3
  go_wp2_with (first
    | (go_at_call 12; refine (HN.out _ _).mono ?_; rintro e w' ⟨rfl, rfl⟩))
  refine (HTK.out a2 a3 c2 c3 t1 w4 HO2.out HO3'.out (by omega)).mono ?_
  rintro e w5 ⟨rfl, hM5⟩
  have HM5 := Lib.hid (HM4.out.trans hM5)
  have HO5 := Lib.hid (HO4.out.mod hM5 (fun _ _ => id))
  have HA5 := Lib.hid (HO2.out.mod hM5 (fun _ _ => id))
  have HB5 := Lib.hid (HO3'.out.mod hM5 (fun _ _ => id))
  clear hM5 HO4 HO2 HO3'
  go_wp2_with fail
  refine (HS2.out _ c1 w5 (Own.bytes HO5.out) (tabs_mod HT.out HM5.out)).mono ?_
  rintro e w6 ⟨a6, c6, rfl, hO6, hM6, hF6⟩
  have HM6 := Lib.hid (HM5.out.trans hM6)
  have HO6 := Lib.hid (HO5.out.mod hM6 (fun _ _ => id))
  have HA6 := Lib.hid (HA5.out.mod hM6 (fun _ _ => id))
  have HB6 := Lib.hid (HB5.out.mod hM6 (fun _ _ => id))
  have HC6 := Lib.hid hO6
  clear hM6 hO6 hF6 HO5 HA5 HB5
  go_wp2_with fail
  refine (HF2.out _ c1 w6 (Own.bytes HO6.out)).mono ?_
  rintro e w7 ⟨a7, c7, rfl, hO7, hM7, hF7⟩
  have HM7 := Lib.hid (HM6.out.trans hM7)
  have HA7 := Lib.hid (HA6.out.mod hM7 (fun _ _ => id))
  have HB7 := Lib.hid (HB6.out.mod hM7 (fun _ _ => id))
  have HC7 := Lib.hid (HC6.out.mod hM7 (fun _ _ => id))
  have HD7 := Lib.hid hO7
  clear hM7 hO7 hF7 HA6 HB6 HC6 HO6
  go_wp2_with (first
    | (go_at_call 12; refine (HN.out _ _).mono ?_; rintro e w' ⟨rfl, rfl⟩))
  refine (HTK.out a6 a7 c6 c7 t2 w7 HC7.out HD7.out (by omega)).mono ?_
  rintro e w8 ⟨rfl, hM8⟩
  have HM8 := Lib.hid (HM7.out.trans hM8)
  have HA8 := Lib.hid (HA7.out.mod hM8 (fun _ _ => id))
  have HB8 := Lib.hid (HB7.out.mod hM8 (fun _ _ => id))
  clear hM8 HA7 HB7 HC7 HD7
  go_wp2_with fail
  refine (HTK.out a2 a3 c2 c3 t1 w8 HA8.out HB8.out (by omega)).mono ?_
  rintro e w9 ⟨rfl, hM9⟩
  have HM9 := Lib.hid (HM8.out.trans hM9)
  clear hM9
  go_wp2_with fail
  go_ret
  exact ⟨rfl, HM9.out⟩
end Go.Proofs.YtgfekdebjafodaaDoor
