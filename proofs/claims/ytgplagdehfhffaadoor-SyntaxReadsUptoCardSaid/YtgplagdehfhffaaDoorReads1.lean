/-
  spaced: a program's text, its tokens written out with a comment and a blank between, is the same program.
-/
import Derived.Test.YtgplagdehfhffaaDoorStrP
import Derived.Test.YtgplagdehfhffaaDoorReadsL
import Derived.Test.YtgplagdehfhffaaDoorScan
import Derived.Test.YtgplagdehfhffaaDoorQuoted
namespace Go.Proofs.YtgplagdehfhffaaDoor
open Go Go.RowKit Go.Mine
set_option linter.unusedVariables false
set_option maxHeartbeats 8000000
set_option maxRecDepth 1000000

def sepB : ByteArray := ⟨#[32, 37, 34, 32, 46, 10, 9]⟩
def mkB (j : Nat) : ByteArray := ⟨(marksW.getD (j + 4) []).toArray⟩
theorem sepO_snoc (ts : List Tok) (k : Nat) (hk : k < ts.length) : (⟨(sepO (ts.take (k + 1))).toArray⟩ : ByteArray) = ⟨(sepO (ts.take k)).toArray⟩ ++ ⟨(writtenL ts[k]).toArray⟩ ++ sepB := by
  apply ByteArray.ext
  apply Array.ext'
  rw [ByteArray.data_append, Array.toList_append, ByteArray.data_append, Array.toList_append]
  show sepO (ts.take (k + 1)) = sepO (ts.take k) ++ writtenL ts[k] ++ [32, 37, 34, 32, 46, 10, 9]
  unfold sepO
  rw [List.take_succ_eq_append_getElem hk, List.flatMap_append, List.append_assoc]
  congr 1
  simp only [List.flatMap_cons, List.flatMap_nil, List.append_nil]
def marksV : List Value := [.string ⟨#[40]⟩, .string ⟨#[41]⟩, .string ⟨#[44]⟩, .string ⟨#[46]⟩, .string ⟨#[58, 45]⟩, .string ⟨#[33]⟩, .string ⟨#[61]⟩, .string ⟨#[33, 61]⟩, .string ⟨#[60]⟩, .string ⟨#[60, 61]⟩]
theorem marksV_at {j : Nat} (hj : j < 10) : marksV[j]? = some (.string (mkB j)) := by
  have hc : j = 0 ∨ j = 1 ∨ j = 2 ∨ j = 3 ∨ j = 4 ∨ j = 5 ∨ j = 6 ∨ j = 7 ∨ j = 8 ∨ j = 9 := by omega
  rcases hc with rfl | rfl | rfl | rfl | rfl | rfl | rfl | rfl | rfl | rfl <;> rfl
theorem toksC_get {ts : List Tok} {k : Nat} {t : Tok} (h : ts[k]? = some t) : (toksC ts)[k * 3]? = some (.int .i64 t.kind) ∧ (toksC ts)[k * 3 + 1]? = some (.string t.text) ∧ (toksC ts)[k * 3 + 2]? = some (.int .i64 t.at_) := by
  induction ts generalizing k with
  | nil => simp at h
  | cons x ts ih =>
    have e : toksC (x :: ts) = tokC x ++ toksC ts := rfl
    have hl : (tokC x).length = 3 := rfl
    cases k with
    | zero => simp at h; subst h; rw [e]; exact ⟨rfl, rfl, rfl⟩
    | succ k =>
      have h' : ts[k]? = some t := by simpa using h
      obtain ⟨h1, h2, h3⟩ := ih h'
      rw [e]
      refine ⟨?_, ?_, ?_⟩
      · rw [List.getElem?_append_right (by rw [hl]; omega), hl, show (k + 1) * 3 - 3 = k * 3 by omega]; exact h1
      · rw [List.getElem?_append_right (by rw [hl]; omega), hl, show (k + 1) * 3 + 1 - 3 = k * 3 + 1 by omega]; exact h2
      · rw [List.getElem?_append_right (by rw [hl]; omega), hl, show (k + 1) * 3 + 2 - 3 = k * 3 + 2 by omega]; exact h3
theorem own_cell3 {w : World} {e : TypeId} {a : Option Addr} {c : Nat} {ts : List Tok} (h : Mine.Own w e 3 a ts.length c (toksC ts)) {k : Nat} (hk : k < ts.length) :
    ∃ b, a = some ⟨b, 0, none⟩ ∧ w.cell? ⟨b, k * 3, none⟩ = some (.int .i64 ts[k].kind) ∧ w.cell? ⟨b, k * 3 + 1, none⟩ = some (.string ts[k].text) ∧ w.cell? ⟨b, k * 3 + 2, none⟩ = some (.int .i64 ts[k].at_) := by
  obtain ⟨b, rfl⟩ := h.atHead (by omega)
  obtain ⟨h1, h2, h3⟩ := toksC_get (List.getElem?_eq_getElem hk)
  obtain ⟨b1, o1, e1, q1⟩ := h.rd _ _ h1
  cases e1
  obtain ⟨b1, o1, e1, q2⟩ := h.rd _ _ h2
  cases e1
  obtain ⟨b1, o1, e1, q3⟩ := h.rd _ _ h3
  cases e1
  rw [Nat.zero_add] at q1 q2 q3
  exact ⟨_, rfl, q1, q2, q3⟩
theorem sts_cell {w : World} {g : Nat} {xs : List Value} (h : Rd w (some ⟨g, 0, none⟩) xs) {j : Nat} {u : Value} (hj : xs[j]? = some u) : w.cell? ⟨g, j, none⟩ = some u := by
  obtain ⟨b, o, e, q⟩ := h j u hj
  cases e
  simpa using q
theorem spaced_true (a : Option Addr) (c : Nat) (l : List UInt8) (rs : List Rm) (v : Value) (w : World) (hr : Rd w a (bts l)) (hT : Lib.Utf8Tabs 1 2 w) (hv : RsAt w v rs) (h : progS ⟨l.toArray⟩ = .ok rs) :
    Calls Tryd.prog 48 #[.slice a l.length c, .agg #[v]] w fun e w' => e = .returned (.bool true) ∧ Mod (fun _ => False) w w' := by
  obtain ⟨hsz, k0, hp, hw⟩ := prog_inv h
  obtain ⟨_, hf⟩ := prog_fault (rs := rs) hw
  have HSZ' : Hid (l.length ≤ 65536) := hsz
  have hfl : scanR (foundL ⟨l.toArray⟩) = ((scanL ⟨l.toArray⟩).1, 0, 0) := by
    have hf' : (scanL ⟨l.toArray⟩).2.2 = 0 := hf
    rw [foundL_short (by show ¬ 65536 < l.length; have := HSZ'.out; omega)]
    unfold scanR
    rw [if_pos hf']
  have hSC := scan_any a c l
  rw [hfl] at hSC
  simp only at hSC
  have hgd : ∀ t ∈ (scanL ⟨l.toArray⟩).1, Good t ∧ t.text.size ≤ 65536 := fun t ht => by
    have := scanGo_good (s := ⟨l.toArray⟩) _ 0 (Nat.zero_le _) t ht
    exact ⟨this.1, by have h2 := this.2; have h3 : (⟨l.toArray⟩ : ByteArray).size = l.length := rfl; have := HSZ'.out; omega⟩
  have hsp := fun hs => spaced_reads h hs
  have hfew : (scanL ⟨l.toArray⟩).1.length ≤ l.length + 1 := toksOf_len ⟨l.toArray⟩
  obtain ⟨ts, hts⟩ : ∃ ts, ts = (scanL ⟨l.toArray⟩).1 := ⟨_, rfl⟩
  rw [← hts] at hSC hgd hsp hfew
  clear hts hfl hp hw hf
  have HSC := Lib.hid hSC; have HGD := Lib.hid hgd; have HSP := Lib.hid hsp
  have HR := Lib.hid hr; have HT := Lib.hid hT; have HV := Lib.hid hv
  have HSM := Lib.hid (prog_small h)
  have HN := Lib.hid law8Num_any
  clear hSC hgd hsp hr hT hsz h
  obtain ⟨a0, c0, _, rfl, _⟩ := hv
  have HFEW : Hid (ts.length ≤ l.length + 1) := hfew
  obtain ⟨M, hM⟩ : ∃ M : Nat → ByteArray, M = fun k => ⟨(sepO (ts.take k)).toArray⟩ := ⟨_, rfl⟩
  obtain ⟨WR, hWR⟩ : ∃ WR : Nat → ByteArray, WR = fun k => if h : k < ts.length then ⟨(writtenL ts[k]).toArray⟩ else ⟨#[]⟩ := ⟨_, rfl⟩
  have HS : Hid (∀ k, k < ts.length → M k ++ WR k ++ sepB = M (k + 1)) := fun k hk => by
    rw [hM, hWR]
    simp only [dif_pos hk]
    exact (sepO_snoc ts k hk).symm
  have H0 : Hid ((⟨#[]⟩ : ByteArray) = M 0) := Lib.hid (by rw [hM]; simp only [List.take_zero]; rfl)
  have HE : Hid (M ts.length = ⟨(sepO ts).toArray⟩) := Lib.hid (by rw [hM]; simp only [List.take_length])
  have HW1 : Hid (∀ (k : Nat) (hk : k < ts.length), (ts[k].kind = 1 ∨ ts[k].kind = 2) → ts[k].text = WR k) := fun k hk h1 => by
    rw [hWR]
    simp only [dif_pos hk]
    unfold writtenL
    rw [if_pos h1, ba_mk]
  have HW3 : Hid (∀ (k : Nat) (hk : k < ts.length), ts[k].kind = 3 → (⟨(quotedL ts[k].text.data.toList).toArray⟩ : ByteArray) = WR k) := fun k hk h1 => by
    rw [hWR]
    simp only [dif_pos hk]
    unfold writtenL
    rw [if_neg (by omega), if_pos h1]
  have HW4 : Hid (∀ (k : Nat) (hk : k < ts.length) (j : Nat), ts[k].kind = j + 4 → mkB j = WR k) := fun k hk j h1 => by
    rw [hWR]
    simp only [dif_pos hk]
    unfold writtenL mkB
    rw [if_neg (by omega), if_neg (by omega), h1]
  have HWZ : Hid (∀ k, k < ts.length → (WR k).size ≤ 300000) := fun k hk => by
    rw [hWR]
    simp only [dif_pos hk]
    show (writtenL ts[k]).toArray.size ≤ _
    rw [List.size_toArray]
    have h1 := writtenL_len ts[k]
    have h2 := (HGD.out _ (List.getElem_mem hk)).2
    omega
  clear hM hWR
  have hm0 : Mod (fun _ => False) w (w.alloc (.cells #[.slice a0 rs.length c0] 26)) := (Mod.refl _ w).alloc _
  have HB0 := Lib.hid (heap_alloc_new w (.cells #[.slice a0 rs.length c0] 26))
  have HMI := Lib.hid hm0
  clear hm0
  go_enter Tryd.func48, Tryd.ntmps48
  go_wp2_with fail
  refine (HSC.out _ (HR.out.mod HMI.out (fun _ _ => id)) (tabs_mod HT.out HMI.out) (by have := HSZ'.out; omega)).mono ?_
  rintro e w1 ⟨a1, c1, rfl, hO1, hM1, _⟩
  have HO1 := Lib.hid hO1
  have hm2 : Mod (fun _ => False) w1 (w1.alloc (.cells marksV.toArray 9)) := (Mod.refl _ w1).alloc _
  have HMK := Lib.hid (Rd.news w1 marksV 9)
  have HO2 := Lib.hid (hO1.mod hm2 (fun _ _ => id))
  have HM0 := Lib.hid (HMI.out.trans (hM1.trans hm2))
  have HB2 := Lib.hid ((hM1.trans hm2).at HB0.out id)
  clear hO1 hM1 hm2 HSC HO1 HB0 HMI
  go_wp2_with (first
    | (go_at_call 14; refine (HN.out _ _).mono ?_; rintro e w' ⟨rfl, rfl⟩))
  rw [H0.out]
  go_loopw [9, 10] (fun sv iv wr => ∃ k : Nat, sv = .string (M k) ∧ iv = .int .i64 k ∧ k ≤ ts.length ∧ Hid ((M k).size ≤ 65536) ∧ Hid (Mod (fun _ => False) (w1.alloc (.cells marksV.toArray 9)) wr)) (fun _ iv _ => ts.length - (intOf iv).toNat)
  case atStart => exact ⟨0, rfl, rfl, Nat.zero_le _, Lib.hid (by rw [← H0.out]; decide), Lib.hid (Mod.refl _ _)⟩
  case round =>
    obtain ⟨k, rfl, rfl, hk, hMz, hM⟩ := hrel
    have hkb : k ≤ 65537 := by have h1 := HFEW.out; have h2 := HSZ'.out; omega
    by_cases hlt : k < ts.length
    · obtain ⟨b1, rfl, x0, x1, _⟩ := own_cell3 (HO2.out.mod hM.out (fun _ _ => id)) hlt
      have hs1 : ¬ 9223372036854775807 < (M k).size + (WR k).size := by
        have h1 := HWZ.out k hlt
        have h2 := hMz.out
        omega
      obtain ⟨hgd, htz⟩ := HGD.out _ (List.getElem_mem hlt)
      by_cases h12 : ts[k].kind = 1 ∨ ts[k].kind = 2
      · rw [HW1.out k hlt h12] at x1
        have hki : decide ((ts[k].kind : Int) < 3) = true := by simp; omega
        have hs3 : ¬ 9223372036854775807 < (M k).size + (WR k).size + sepB.size := by
          have h1 := HWZ.out k hlt
          have h2 := hMz.out
          have h3 : sepB.size = 7 := rfl
          omega
        unfold sepB at hs3
        clear hgd h12 htz
        generalize ts[k].kind = kd at *
        by_cases hbig : ((M k).size : Int) + ((WR k).size : Int) + 7 ≤ 65536
        · have HBG := Lib.hid hbig
          have hbb : decide (65536 < ((M k).size : Int) + ((WR k).size : Int) + 7) = false := by simp; omega
          clear hbig
          go_wp2_with fail
          go_roundw
          case rel => exact ⟨k + 1, congrArg Value.string (HS.out k hlt), by go_num, hlt, Lib.hid (by
            rw [← HS.out k hlt, ByteArray.size_append, ByteArray.size_append]
            have h1 := HBG.out
            have h2 : sepB.size = 7 := rfl
            omega), Lib.hid hM.out⟩
          case measure => simp [intOf]; omega
        · have hbb : decide (65536 < ((M k).size : Int) + ((WR k).size : Int) + 7) = true := by simp; omega
          clear hbig
          go_wp2_with fail
          go_ret
          exact ⟨rfl, HM0.out.trans hM.out⟩
      · by_cases h3 : ts[k].kind = 3
        · have hki : decide ((ts[k].kind : Int) < 3) = false := by simp; omega
          rw [h3] at x0
          have hs3 : ¬ 9223372036854775807 < (M k).size + (WR k).size + sepB.size := by
            have h1 := HWZ.out k hlt
            have h2 := hMz.out
            have h3 : sepB.size = 7 := rfl
            omega
          unfold sepB at hs3
          have HQ := Lib.hid (lexQuoted_any ts[k].text wr (by omega))
          rw [HW3.out k hlt h3] at HQ
          clear hgd h12 htz hki h3
          go_wp2_with fail
          refine HQ.out.mono ?_
          rintro e w5 ⟨rfl, hM5⟩
          clear HQ
          by_cases hbig : ((M k).size : Int) + ((WR k).size : Int) + 7 ≤ 65536
          · have HBG := Lib.hid hbig
            have hbb : decide (65536 < ((M k).size : Int) + ((WR k).size : Int) + 7) = false := by simp; omega
            clear hbig
            go_wp2_with fail
            go_roundw
            case rel => exact ⟨k + 1, congrArg Value.string (HS.out k hlt), by go_num, hlt, Lib.hid (by
              rw [← HS.out k hlt, ByteArray.size_append, ByteArray.size_append]
              have h1 := HBG.out
              have h2 : sepB.size = 7 := rfl
              omega), Lib.hid (hM.out.trans hM5)⟩
            case measure => simp [intOf]; omega
          · have hbb : decide (65536 < ((M k).size : Int) + ((WR k).size : Int) + 7) = true := by simp; omega
            clear hbig
            go_wp2_with fail
            go_ret
            exact ⟨rfl, HM0.out.trans (hM.out.trans hM5)⟩
        · obtain ⟨j, hj, hj10⟩ : ∃ j, ts[k].kind = j + 4 ∧ j < 10 := by
            rcases hgd with h | ⟨h, _⟩ | ⟨h1, h2, _⟩
            · exact absurd h h3
            · exact absurd h h12
            · exact ⟨ts[k].kind - 4, by omega, by omega⟩
          have hs3 : ¬ 9223372036854775807 < (M k).size + (WR k).size + sepB.size := by
            have h1 := HWZ.out k hlt
            have h2 := hMz.out
            have h3 : sepB.size = 7 := rfl
            omega
          unfold sepB at hs3
          rw [hj] at x0
          have xm := hM.out.cell (sts_cell HMK.out (marksV_at hj10)) id
          rw [HW4.out k hlt j hj] at xm
          have hx0 : (((j + 4 : Nat)) : Int) = (j : Int) + 4 := by omega
          rw [hx0] at x0
          have hk1 : decide ((j : Int) + 4 < 3) = false := by simp; omega
          have hk2 : (((j : Int) + 4) == 3) = false := by simp; omega
          clear hgd h12 htz h3 hj hx0
          by_cases hbig : ((M k).size : Int) + ((WR k).size : Int) + 7 ≤ 65536
          · have HBG := Lib.hid hbig
            have hbb : decide (65536 < ((M k).size : Int) + ((WR k).size : Int) + 7) = false := by simp; omega
            clear hbig
            go_wp2_with fail
            go_roundw
            case rel => exact ⟨k + 1, congrArg Value.string (HS.out k hlt), by go_num, hlt, Lib.hid (by
              rw [← HS.out k hlt, ByteArray.size_append, ByteArray.size_append]
              have h1 := HBG.out
              have h2 : sepB.size = 7 := rfl
              omega), Lib.hid hM.out⟩
            case measure => simp [intOf]; omega
          · have hbb : decide (65536 < ((M k).size : Int) + ((WR k).size : Int) + 7) = true := by simp; omega
            clear hbig
            go_wp2_with fail
            go_ret
            exact ⟨rfl, HM0.out.trans hM.out⟩
    · obtain rfl : k = ts.length := by omega
      have HP := Lib.hid (parse_str (M ts.length) (.ok rs) (by
        rw [HE.out]
        refine HSP.out ?_
        have h1 := hMz.out
        rw [HE.out] at h1
        have h2 : (⟨(sepO ts).toArray⟩ : ByteArray).size = (sepO ts).length := List.size_toArray ..
        omega) (by have := hMz.out; omega) wr (tabs_mod HT.out (HM0.out.trans hM.out)))
      simp only [noOf, atOf, valOf] at HP
      have hcv := run_bytes_of_string (P := Tryd.prog) wr 9 22 5 (M ts.length) (by kernel_rfl) (by kernel_rfl) (by kernel_rfl)
      go_wp2_with fail
      clear hcv
      generalize grownCap wr (M ts.length).size 0 5 = cap
      refine (HP.out cap _).mono ?_
      rintro e w5 ⟨v, rfl, hv, hM5⟩
      have HV5 := Lib.hid hv
      obtain ⟨a5, c5, _, rfl, _⟩ := hv
      have hm5 : Mod (fun _ => False) w5 (w5.alloc (.cells #[.slice a5 rs.length c5] 26)) := (Mod.refl _ w5).alloc _
      have mm := (hM.out.trans hM5).trans hm5
      have x3 : (w5.alloc (.cells #[.slice a5 rs.length c5] 26)).cell? ⟨w.heap.size, 0, none⟩ = some (.slice a0 rs.length c0) := cell_at (mm.at HB2.out id) rfl
      have HMM := Lib.hid (HM0.out.trans mm)
      have HQ := Lib.hid (law8Prog_true rs (.slice a5 rs.length c5) (.slice a0 rs.length c0) (w5.alloc (.cells #[.slice a5 rs.length c5] 26)) (HV5.out.mod0 hm5) (HV.out.mod0 HMM.out) (by have := HSM.out.1; omega) (fun r hr => (HSM.out.2 r hr).smR))
      clear hM5 hm5 mm HP HV5 hMz hkb
      go_wp2_with (first
        | (go_at_call 14; refine (HN.out _ _).mono ?_; rintro e w' ⟨rfl, rfl⟩))
      refine HQ.out.mono ?_
      rintro e w6 ⟨rfl, hM6⟩
      have HM6 := Lib.hid (HMM.out.trans hM6)
      clear hM6 HQ
      go_wp2_with fail
      go_ret
      exact ⟨rfl, HM6.out⟩
end Go.Proofs.YtgplagdehfhffaaDoor
