import Derived.Test.YtgfekdebjafodaaSym
import Derived.Test.YtgfekdebjafodaaReads2
namespace Go.Proofs.Ytgfekdebjafodaa
open Go Go.RowKit Go.Mine
set_option maxHeartbeats 400000
set_option maxRecDepth 100000
set_option linter.unusedVariables false

theorem rdGo_len (l : List UInt8) : ∀ (m at_ : Nat) (acc : List ByteArray), (rdGo l m at_ acc).1.length ≤ acc.length + m := by
  intro m
  induction m with
  | zero => intro at_ acc; simp [rdGo]
  | succ m ih =>
    intro at_ acc
    rw [rdGo]
    split
    · simp
    · split
      · simp
      · have := ih (stText 4096 l at_ 0).2.1 (acc ++ [⟨(stText 4096 l at_ 0).1.toArray⟩])
        simp only [List.length_append, List.length_singleton] at this
        omega
theorem readL_len (l : List UInt8) : (readL l).1.length ≤ 4194304 := by
  unfold readL
  split
  · simp
  · split
    · simp
    · have := rdGo_len l (stNum l 0 0).1 (stNum l 0 0).2.1 []
      simp only [List.length_nil] at this
      omega
theorem bytes_mod (w : World) (e : TypeId) (s : ByteArray) : Mod (fun _ => False) w (Lib.bytesWorld w e s) :=
  ⟨rfl, rfl, rfl, by rw [Lib.bytesWorld_size]; omega, fun k hk _ => Lib.bytesWorld_at_old w e s k hk⟩
theorem bytes_rd (w : World) (e : TypeId) (l : List UInt8) : Rd (Lib.bytesWorld w e ⟨l.toArray⟩) (some ⟨w.heap.size, 0, none⟩) (bts l) := by
  intro i u hi
  refine ⟨_, _, rfl, ?_⟩
  have hlt : i < l.length := by
    have := (List.getElem?_eq_some_iff.1 hi).1
    simpa using this
  rw [Nat.zero_add, Lib.bytesWorld_cell w e _ i (by simpa [ByteArray.size] using hlt)]
  simp only [bts, List.getElem?_map] at hi
  rw [← hi]
  simp [List.getD, hlt]
theorem conv42 (w : World) (l : List UInt8) : (convert 9 24 (.string ⟨l.toArray⟩)).run Try.prog w = .ok (.slice (some ⟨w.heap.size, 0, none⟩) l.length (grownCap w l.length 0 5)) (Lib.bytesWorld w 5 ⟨l.toArray⟩) := by
  have := Lib.run_convert_string_bytes (P := Try.prog) w 9 24 5 ⟨l.toArray⟩ (u := .string) (by kernel_rfl) (by kernel_rfl) (by kernel_rfl)
  simpa [ByteArray.size] using this
theorem conv42_cap (w : World) (n : Nat) : n ≤ grownCap w n 0 5 := grownCap_ge w n 0 _

theorem texts_self (a1 a2 : Option Addr) (c1 c2 : Nat) (xs : List ByteArray) (w : World) (ha : Rd w a1 (sts xs)) (hb : Rd w a2 (sts xs)) (hn : xs.length < 2^60) :
   Calls Try.prog 17 #[.slice a1 xs.length c1, .slice a2 xs.length c2] w fun e w' => e = .returned (.bool true) ∧ Mod (fun _ => False) w w' := by
  have := texts_any a1 a2 c1 c2 xs xs w ha hb hn hn
  simpa using this

theorem symtabReads_walk (a : Option Addr) (c : Nat) (l : List UInt8) (w : World) (hr : Rd w a (bts l)) (hn : l.length ≤ 1048576) :
    Calls Try.prog 5 #[.slice a l.length c] w fun e w' => e = .returned (.bool true) ∧ Mod (fun _ => False) w w' := by
  have HR := Lib.hid hr; clear hr
  go_enter Try.func5, Try.ntmps5
  go_wp2_with (first
    | (at_builtin; refine wpL_append0 rfl (.tmp 13) (.tmp 14) 24 24 rfl ti24 rfl rfl (Src.ofRd ti24.ht l.length c HR.out (by simp) (bts_one l)) (by omega) (by unfold maxLen; omega) ?_; intro a2 c2 w2 hO2 hM2 hF2 _
       have HO2 := Lib.hid hO2; have HM2 := Lib.hid hM2; have HF2 := Lib.hid hF2; clear hO2 hM2 hF2)
    | (at_builtin; refine wpL_appendN (us := [_, _]) rfl (.tmp 15) (.tmp 16) 24 rfl ti24 rfl HO2.out rfl rfl rfl (by omega) (by unfold maxLen; omega) ?_; intro a3 c3 w3 hO3 hG3 _
       obtain ⟨g3, rfl⟩ := hO3.atHead (by omega)
       have hc3 : l.length + 2 ≤ c3 := by
         obtain ⟨_, _, _, _, h, _⟩ := hO3.2.resolve_left (by simp)
         exact h
       have HO3 := Lib.hid hO3; have HG3 := Lib.hid hG3; clear hO3 hG3))
  have hg : w.heap.size ≤ g3 := by
    rcases HG3.out.pos with e | ⟨b, e, hb⟩
    · exact HF2.out g3 (by rw [← e]; rfl)
    · simp at e; have := HM2.out.size; omega
  have hm3 : Mine.Mod (fun _ => False) w w3 := HM2.out.step HG3.out.mod (fun i hi hs => by have := HF2.out i hs; omega)
  have hO3 : Own w3 5 1 (some ⟨g3, 0, none⟩) (l.length + 2) c3 (bts (l ++ [201, 202])) := by rw [bts_append]; exact HO3.out
  have HM3 := Lib.hid hm3; have HO3 := Lib.hid hO3; clear hm3 hO3 HO2 HM2 HF2 HG3
  go_loopw [4] (fun t wr => ∃ (k : Nat) (xs : List UInt8), k ≤ 2 ∧ t = .int .i64 k ∧ Hid (xs.length = l.length) ∧ Hid (Own wr 5 1 (some ⟨g3, 0, none⟩) (l.length + 2) c3 (bts (xs ++ [201, 202]))) ∧ Hid (Mod (fun _ => False) w wr)) (fun t _ => 2 - (intOf t).toNat)
  case atStart => exact ⟨0, l, by omega, rfl, rfl, HO3, HM3⟩
  case round =>
    obtain ⟨k, xs, hk, rfl, hxl, hO, hM⟩ := hrel
    by_cases hlt : k < 2
    · have hrd : ∀ w, Own w 5 1 (some ⟨g3, 0, none⟩) (l.length + 2) c3 (bts (xs ++ [201, 202])) → Rd w (some ⟨g3, 0, none⟩) (bts xs) := fun w h => by
        have := h.rd.take xs.length
        rw [bts_append, List.take_left' (by simp)] at this
        exact this
      have HS : Hid (∀ (w : World), Rd w (some ⟨g3, 0, none⟩) (bts xs) → Calls Try.prog 15 #[.slice (some ⟨g3, 0, none⟩) l.length c3] w fun e w' => ∃ v, e = .returned (.tuple #[v, .int .i64 (readL xs).2.1, .int .i64 (readL xs).2.2]) ∧ RdRes w w' (readL xs).1 v) := fun w h => by
        rw [← hxl.out]
        exact symRead_any _ c3 xs w h (by have := hxl.out; omega) (by simp)
      have HF : Hid (∀ (w : World) (b c : Nat), b < w.heap.size → xs.length ≤ c → Rd w (some ⟨b, 0, none⟩) (bts xs) → Calls Try.prog 16 #[.slice (some ⟨b, 0, none⟩) xs.length c] w fun e w' => ∃ v, e = .returned (.tuple #[v, .int .i64 (readL xs).2.1, .int .i64 (readL xs).2.2]) ∧ RdRes w w' (readL xs).1 v) := fun w b c hb hc h =>
        refRead_any _ c xs w h (by have := hxl.out; omega) hc (by intro b' hb'; simp at hb'; omega)
      have hcv := fun w h => conv24 (some ⟨g3, 0, none⟩) xs c3 w (hrd w h)
      rw [hxl.out] at hcv
      have hcv1 := hcv _ hO.out
      have hcv2 := fun w => conv42 w xs
      have HRD := Lib.hid hrd; have HCV := Lib.hid hcv; clear hrd hcv
      have hll := readL_len xs
      generalize readL xs = r at *
      obtain ⟨ts, at1, f1⟩ := r
      simp only at *
      go_wp2_with (first
        | (go_at_call 15; refine (HS.out _ (HRD.out _ hO.out)).mono ?_; rintro e w4 ⟨v4, rfl, hp4⟩
           obtain ⟨hm4, a4, c4, rfl, hr4, hf4⟩ := hp4
           have HM4 := Lib.hid hm4; have HR4 := Lib.hid hr4; have HF4 := Lib.hid hf4; clear hm4 hr4 hf4)
        | (go_at_call 16; refine (HF.out _ _ _ (by rw [Lib.bytesWorld_size]; omega) (conv42_cap _ _) (bytes_rd _ _ _)).mono ?_; rintro e w5 ⟨v5, rfl, hp5⟩
           obtain ⟨hm5, a5, c5, rfl, hr5, hf5⟩ := hp5
           have HM5 := Lib.hid ((bytes_mod w4 5 ⟨xs.toArray⟩).trans hm5); have HR5 := Lib.hid hr5; have HF5 := Lib.hid hf5; clear hm5 hr5 hf5)
        | (go_at_call 17; refine (texts_self a4 a5 c4 c5 ts _ (HR4.out.mod HM5.out (fun _ _ => id)) HR5.out (by omega)).mono ?_; rintro e w6 ⟨rfl, hm6⟩
           have hm46 := HM5.out.trans hm6
           have hO6 := hO.out.mod (HM4.out.trans hm46) (fun _ _ => id)
           have hcv6 := HCV.out w6 hO6
           have h201 : w6.cell? ⟨g3, l.length, none⟩ = some (.int .u8 201) := by
             obtain ⟨b, o, e, hc⟩ := hO6.rd l.length (.int .u8 201) (by rw [← hxl.out]; simp [bts])
             cases e
             simpa using hc
           have h202 : w6.cell? ⟨g3, l.length + 1, none⟩ = some (.int .u8 202) := by
             obtain ⟨b, o, e, hc⟩ := hO6.rd (l.length + 1) (.int .u8 202) (by rw [← hxl.out]; simp [bts])
             cases e
             simpa using hc
           have HR46 := Lib.hid (HR4.out.mod hm46 (fun _ _ => id)); have HR56 := Lib.hid (HR5.out.mod hm6 (fun _ _ => id))
           have HM6 := Lib.hid (HM4.out.trans hm46); have HO6 := Lib.hid hO6; clear hm46 hm6 hO6))
      have hgr := hO.out.lt g3 rfl
      have hd4 : ∀ b, blk a4 = some b → ¬ b = g3 := fun b hb e => by have := HF4.out b hb; omega
      have hd5 : ∀ b, blk a5 = some b → ¬ b = g3 := fun b hb e => by
        have h1 := HF5.out b hb
        rw [Lib.bytesWorld_size] at h1
        have h2 := HM4.out.size
        omega
      have HD4 := Lib.hid hd4; have HD5 := Lib.hid hd5
      clear hd4 hd5 hcv1 hcv2 hcv6 h201 h202 HS HF HCV HRD HR5 HR4 HF4 HF5 HM5 HM4
      go_loopw [12] (fun i wr5 => ∃ (j : Nat) (ys : List UInt8), j ≤ l.length ∧ i = .int .i64 j ∧ Hid (ys.length = l.length) ∧ Hid (Own wr5 5 1 (some ⟨g3, 0, none⟩) (l.length + 2) c3 (bts (ys ++ [201, 202]))) ∧ Hid (Mod (fun b => b = g3) w6 wr5)) (fun i _ => l.length - (intOf i).toNat)
      case atStart => exact ⟨0, xs, by omega, rfl, hxl, HO6, Mod.refl _ _⟩
      case round =>
        obtain ⟨j, ys, hj, rfl, hyl, hOy, hMy⟩ := hrel
        by_cases hjl : j < l.length
        · have hjy : j < ys.length := by rw [hyl.out]; exact hjl
          have hcj : wr.cell? ⟨g3, j, none⟩ = some (.int .u8 ys[j].toNat) := by
            obtain ⟨b, o, e, hc⟩ := hOy.out.rd j (.int .u8 ys[j].toNat) (by simp [bts, List.getElem?_append_left, hjy])
            cases e
            simpa using hc
          have hfj := hOy.out.frozen (b := g3) (o := j) rfl
          generalize hy : ys[j] = y at *
          have HY := Lib.hid hy; clear hy
          go_wp2
          go_roundw
          case rel =>
            have e8 : (((y.toNat : Int) + 1) % 256) = ((y + 1).toNat : Int) := by rw [UInt8.toNat_add]; simp
            rw [e8]
            have hst := hOy.out.store j (.int .u8 (y + 1).toNat)
            have e : (bts (ys ++ [201, 202])).set j (.int .u8 (y + 1).toNat) = bts (ys.set j (y + 1) ++ [201, 202]) := by
              simp only [bts, List.map_append, List.map_set]
              rw [List.set_append_left _ _ (by simpa using hjy)]
            rw [e] at hst
            exact ⟨j + 1, ys.set j (y + 1), hjl, by go_num, by unfold Hid; rw [List.length_set]; exact hyl.out, Lib.hid hst, hMy.out.setCell (p := ⟨g3, j, none⟩) (fun _ => rfl) _⟩
          case measure => simp [intOf]; omega
        · obtain rfl : j = l.length := by omega
          go_wp2_with (first
            | (go_at_call 17; refine (texts_self a4 a5 c4 c5 ts _ (HR46.out.mod hMy.out HD4.out) (HR56.out.mod hMy.out HD5.out) (by omega)).mono ?_; rintro e w7 ⟨rfl, hm7⟩
               have HM7 := Lib.hid hm7; clear hm7))
          go_roundw
          case rel =>
            exact ⟨k + 1, ys, by omega, by go_num, hyl, Lib.hid (hOy.out.mod HM7.out (fun _ _ => id)), ((hM.out.trans HM6.out).step hMy.out (fun i hi hs => by omega)).trans HM7.out⟩
          case measure => simp [intOf]; omega
    · obtain rfl : k = 2 := by omega
      go_wp2
      go_ret
      exact ⟨rfl, hM.out⟩
end Go.Proofs.Ytgfekdebjafodaa
