/-
  print's writer: atom.
-/
import Derived.Test.YtgplagdehfhffaaDoorWrite2
namespace Go.Proofs.YtgplagdehfhffaaDoor
open Go Go.RowKit Go.Mine
set_option linter.unusedVariables false
set_option maxHeartbeats 4000000
set_option maxRecDepth 100000

/-- what is written so far: the base, and so many pieces -/
def spre (base f s : List UInt8) (xs : List (List UInt8)) (k : Nat) : List UInt8 := base ++ sepT f s (xs.take k)
theorem spre_zero (base f s : List UInt8) (xs : List (List UInt8)) : spre base f s xs 0 = base := by simp [spre, sepT]
theorem spre_succ (base f s : List UInt8) {xs : List (List UInt8)} {k : Nat} (hk : k < xs.length) : spre base f s xs (k + 1) = spre base f s xs k ++ (if k = 0 then f else s) ++ xs[k] := by
  unfold spre
  rw [List.take_succ_eq_append_getElem hk, sepT_snoc, List.append_assoc, List.append_assoc]
  congr 2
  have : (xs.take k = []) ↔ k = 0 := by
    rw [List.take_eq_nil_iff]
    constructor
    · rintro (h | h)
      · exact h
      · subst h; simp at hk
    · exact .inl
  simp only [this]
theorem spre_le (base f s : List UInt8) (xs : List (List UInt8)) (k : Nat) : (spre base f s xs k).length ≤ (base ++ sepT f s xs).length := by
  unfold spre
  have : ∀ xs ys : List (List UInt8), (sepT f s xs).length ≤ (sepT f s (xs ++ ys)).length := by
    intro xs ys
    cases xs with
    | nil => simp [sepT]
    | cons x xs => simp [sepT]
  have h := this (xs.take k) (xs.drop k)
  rw [List.take_append_drop] at h
  rw [List.length_append, List.length_append]
  omega
theorem spre_all (base f s : List UInt8) (xs : List (List UInt8)) : spre base f s xs xs.length = base ++ sepT f s xs := by unfold spre; rw [List.take_length]
def apre (a : Am) (k : Nat) : List UInt8 := spre a.pred.data.toList [40] [44, 32] (a.terms.map tmT) k
theorem apre_succ (a : Am) {k : Nat} (hk : k < a.terms.length) : apre a (k + 1) = apre a k ++ (if k = 0 then [40] else [44, 32]) ++ tmT a.terms[k] := by
  unfold apre
  rw [spre_succ _ _ _ (by simpa using hk)]
  simp
theorem apre_le (a : Am) (k : Nat) : (apre a k).length ≤ (amT a).length := by
  have := spre_le a.pred.data.toList [40] [44, 32] (a.terms.map tmT) k
  unfold apre amT
  rw [List.length_append]
  omega
theorem apre_all (a : Am) : amT a = apre a a.terms.length ++ (if a.terms.length = 0 then [] else [41]) := by
  have := spre_all a.pred.data.toList [40] [44, 32] (a.terms.map tmT)
  rw [List.length_map] at this
  unfold apre amT
  rw [this]

theorem atom_any (a : Am) (ok : OkAm a) (s : Value) (w0 w : World) (p : Nat) (b : Option Addr) (l : List UInt8) (ht : TsAt w0 s a.terms) (h : Wr w0 w p b l) :
    Calls Tryd.prog 151 #[.pointer (some ⟨p, 0, none⟩), .agg #[.string a.pred, s]] w (WrPost w0 w p b (l ++ amT a)) := by
  have hpl := ok.plen
  have hpp := ok.ppos
  have hfew := ok.few
  have HALL := Lib.hid ok.all
  have H := Lib.hid h; clear h
  obtain ⟨ad, c, rfl, hr⟩ := ht
  have HR := Lib.hid hr; clear hr
  have HLE := Lib.hid (apre_le a)
  have HSU := Lib.hid (fun k (hk : k < a.terms.length) => apre_succ a hk)
  have hz : apre a 0 = a.pred.data.toList := spre_zero _ _ _ _
  have HAL := Lib.hid (apre_all a)
  generalize amT a = out at *
  generalize apre a = pre at *
  obtain ⟨pr, ts⟩ := a
  simp only at *
  have HZ := Lib.hid hz; clear hz
  have hc1 : (w.alloc (.cells #[.string pr, .slice ad ts.length c] 37)).cell? ⟨w.heap.size, 1, none⟩ = some (.slice ad ts.length c) := cell_new rfl
  have hm0 : Mod (fun _ => False) w (w.alloc (.cells #[.string pr, .slice ad ts.length c] 37)) := (Mod.refl _ w).alloc _
  have HP := Lib.hid (put_one pr w0 _ p b l (H.out.mod0 hm0) ⟨hpp, by omega⟩ (w.heap.size + 1) (by simp) (l ++ pre 0) (by rw [HZ.out]))
  have HM0 := Lib.hid hm0
  clear hm0
  go_enter Tryd.func151, Tryd.ntmps151
  go_wp2_with fail
  refine (HP.out).mono ?_
  rintro e w1 (⟨rfl, a1, hW1, hG1⟩ | ⟨hov, rfl, hM2⟩)
  · have c1 := H.out.keep hG1 hc1 (Nat.le_refl _)
    have HW1 := Lib.hid hW1; have HG1 := Lib.hid hG1; have HC1 := Lib.hid hc1; clear hW1 hG1 hc1 HP
    obtain ⟨W, hW⟩ : ∃ W, W = w.alloc (.cells #[.string pr, .slice ad ts.length c] 37) := ⟨_, rfl⟩
    rw [← hW] at HG1 HM0 HC1
    clear hW
    go_wp2_with fail
    go_loopw [14] (fun iv wr => ∃ (k : Nat) (a' : Option Addr), iv = .int .i64 k ∧ k ≤ ts.length ∧ Hid (Wr w0 wr p a' (l ++ pre k)) ∧ Hid (BuGo W p b wr a')) (fun iv _ => ts.length - (intOf iv).toNat)
    case atStart => exact ⟨0, a1, rfl, Nat.zero_le _, HW1, HG1⟩
    case round =>
      obtain ⟨k, a', rfl, hk, hW, hG⟩ := hrel
      clear HW1 HG1 c1
      by_cases hlt : k < ts.length
      · obtain ⟨bb, o, rfl, x0, x1⟩ := rd_cell2 (HR.out.mod hW.out.mod (fun _ _ => id)) hlt
        have HOK := Lib.hid (HALL.out _ (List.getElem_mem hlt))
        have hst := HSU.out k hlt
        have HLE2 : Hid ((l ++ pre (k + 1)).length ≤ (l ++ out).length) := by
          have := HLE.out (k + 1)
          unfold Hid
          rw [List.length_append, List.length_append]
          omega
        generalize ts[k] = t at *
        obtain ⟨tk, tx⟩ := t
        simp only at *
        have hd0 : (wr.alloc (.cells #[.int .i64 tk, .string tx] 60)).cell? ⟨wr.heap.size, 0, none⟩ = some (.int .i64 tk) := cell_new rfl
        have hd1 : (wr.alloc (.cells #[.int .i64 tk, .string tx] 60)).cell? ⟨wr.heap.size, 1, none⟩ = some (.string tx) := cell_new rfl
        by_cases hk0 : k = 0
        · subst hk0
          have HST : Hid (l ++ pre (0 + 1) = l ++ pre 0 ++ [40] ++ tmT ⟨tk, tx⟩) := by
            unfold Hid
            rw [hst, if_pos rfl]
            simp only [List.append_assoc]
          have HP := Lib.hid (put_one ⟨#[40]⟩ w0 _ p a' _ (hW.out.mod0 ((Mod.refl (fun _ => False) wr).alloc (.cells #[.int .i64 tk, .string tx] 60))) (by decide) (wr.heap.size + 1) (by simp) _ rfl)
          clear hst
          rw [show ((0 : Nat) : Int) = 0 from rfl]
          simp only [Nat.zero_mul, Nat.add_zero] at x0 x1
          go_wp2_with fail
          refine (HP.out).mono ?_
          rintro e v1 (⟨rfl, a1, hW1, hG1⟩ | ⟨hov, rfl, hM2⟩)
          · have t0 := hW.out.keep hG1 hd0 (Nat.le_refl _)
            have t1 := hW.out.keep hG1 hd1 (Nat.le_refl _)
            have HW1 := Lib.hid hW1; have HG1 := Lib.hid hG1; clear hW1 hG1
            have HTM := Lib.hid (term_any ⟨tk, tx⟩ HOK.out w0 v1 p a1 _ HW1.out)
            unfold tmV at HTM
            go_wp2_with fail
            refine (HTM.out).mono ?_
            rintro e v2 (⟨rfl, a2, hW2, hG2⟩ | ⟨hov, rfl, hM2⟩)
            · have HW2 := Lib.hid hW2; have HG2 := Lib.hid hG2; clear hW2 hG2
              go_wp2_with fail
              go_roundw
              case rel => exact ⟨0 + 1, a2, rfl, hlt, by rw [HST.out]; exact HW2.out, Lib.hid (hG.out.trans (BuGo.pre0 ((Mod.refl _ wr).alloc _) (HG1.out.trans HG2.out)))⟩
              case measure => simp [intOf]; omega
            · skip
              have HOV := Lib.hid hov; have HM2 := Lib.hid hM2; clear hov hM2
              go_wp2_with fail
              exact ⟨rfl, .inr ⟨by have h1 := HOV.out; have h2 := HLE2.out; rw [HST.out] at h2; omega, rfl, HM2.out⟩⟩
          · skip
            have HOV := Lib.hid hov; have HM2 := Lib.hid hM2; clear hov hM2
            go_wp2_with fail
            exact ⟨rfl, .inr ⟨by have h1 := HOV.out; have h2 := HLE2.out; rw [HST.out, List.length_append] at h2; omega, rfl, HM2.out⟩⟩
        · have HST : Hid (l ++ pre (k + 1) = l ++ pre k ++ [44, 32] ++ tmT ⟨tk, tx⟩) := by
            unfold Hid
            rw [hst, if_neg hk0]
            simp only [List.append_assoc]
          have HP := Lib.hid (put_one ⟨#[44, 32]⟩ w0 _ p a' _ (hW.out.mod0 ((Mod.refl (fun _ => False) wr).alloc (.cells #[.int .i64 tk, .string tx] 60))) (by decide) (wr.heap.size + 1) (by simp) _ rfl)
          have hkb : ((k : Int) == 0) = false := by simp; omega
          clear hst hk0
          go_wp2_with fail
          refine (HP.out).mono ?_
          rintro e v1 (⟨rfl, a1, hW1, hG1⟩ | ⟨hov, rfl, hM2⟩)
          · have t0 := hW.out.keep hG1 hd0 (Nat.le_refl _)
            have t1 := hW.out.keep hG1 hd1 (Nat.le_refl _)
            have HW1 := Lib.hid hW1; have HG1 := Lib.hid hG1; clear hW1 hG1
            have HTM := Lib.hid (term_any ⟨tk, tx⟩ HOK.out w0 v1 p a1 _ HW1.out)
            unfold tmV at HTM
            go_wp2_with fail
            refine (HTM.out).mono ?_
            rintro e v2 (⟨rfl, a2, hW2, hG2⟩ | ⟨hov, rfl, hM2⟩)
            · have HW2 := Lib.hid hW2; have HG2 := Lib.hid hG2; clear hW2 hG2
              go_wp2_with fail
              go_roundw
              case rel => exact ⟨k + 1, a2, by go_num, hlt, by rw [HST.out]; exact HW2.out, Lib.hid (hG.out.trans (BuGo.pre0 ((Mod.refl _ wr).alloc _) (HG1.out.trans HG2.out)))⟩
              case measure => simp [intOf]; omega
            · skip
              have HOV := Lib.hid hov; have HM2 := Lib.hid hM2; clear hov hM2
              go_wp2_with fail
              exact ⟨rfl, .inr ⟨by have h1 := HOV.out; have h2 := HLE2.out; rw [HST.out] at h2; omega, rfl, HM2.out⟩⟩
          · skip
            have HOV := Lib.hid hov; have HM2 := Lib.hid hM2; clear hov hM2
            go_wp2_with fail
            exact ⟨rfl, .inr ⟨by have h1 := HOV.out; have h2 := HLE2.out; rw [HST.out, List.length_append] at h2; omega, rfl, HM2.out⟩⟩
      · obtain rfl : k = ts.length := by omega
        have c1 := H.out.keep hG.out HC1.out (Nat.le_refl _)
        by_cases hn : ts.length = 0
        · have HA2 : Hid (out = pre ts.length) := by
            have := HAL.out
            rw [if_pos hn, List.append_nil] at this
            exact this
          have HN := Lib.hid hn
          rw [hn] at c1 ⊢
          clear hn
          rw [show ((0 : Nat) : Int) = 0 from rfl] at *
          go_wp2_with fail
          go_end0
          exact .inl ⟨rfl, a', by rw [HA2.out]; exact hW.out, BuGo.pre0 HM0.out hG.out⟩
        · have HA2 : Hid (l ++ pre ts.length ++ [41] = l ++ out) := by
            have := HAL.out
            rw [if_neg hn] at this
            unfold Hid
            rw [this, List.append_assoc]
          have hn0 : 0 < ts.length := by omega
          clear hn
          have HP := Lib.hid (put_one ⟨#[41]⟩ w0 _ p a' _ hW.out (by decide) wr.heap.size rfl _ rfl)
          go_wp2_with fail
          refine (HP.out).mono ?_
          rintro e w2 (⟨rfl, a2, hW2, hG2⟩ | ⟨hov, rfl, hM2⟩)
          · have HW2 := Lib.hid hW2; have HG2 := Lib.hid hG2; clear hW2 hG2
            go_wp2_with fail
            go_end0
            exact .inl ⟨rfl, a2, by rw [← HA2.out]; exact HW2.out, BuGo.pre0 HM0.out (hG.out.trans HG2.out)⟩
          · have HOV := Lib.hid hov; have HM2 := Lib.hid hM2; clear hov hM2
            go_wp2_with fail
            exact ⟨rfl, .inr ⟨by rw [← HA2.out]; exact HOV.out, rfl, HM2.out⟩⟩
  · skip
    have HOV := Lib.hid hov; have HM2 := Lib.hid hM2; clear hov hM2
    go_wp2_with fail
    exact ⟨rfl, .inr ⟨by have h1 := HOV.out; have h2 := HLE.out 0; rw [List.length_append] at h1 ⊢; omega, rfl, HM2.out⟩⟩
end Go.Proofs.YtgplagdehfhffaaDoor
