import Derived.Test.YtjoiaejbahdjkaaGreatRefReader
import Derived.Test.YtjoiaejbahdjkaaGreatPage
import Derived.Lib.ConvBytes
namespace Go.Proofs.YtjoiaejbahdjkaaGreat
open Go Go.RowKit Go.Mine
set_option maxHeartbeats 400000
set_option maxRecDepth 100000
set_option linter.unusedVariables false
def fell (xs : List ByteArray) (t : ByteArray) : Bool := match prevAt xs xs.length with | none => false | some q => !blt q t
def rdGo (l : List UInt8) : Nat → Nat → List ByteArray → List ByteArray × Nat × Nat
 | 0, at_, acc => (acc, at_, 0)
 | m + 1, at_, acc =>
   if (stText 4096 l at_ 0).2.2 ≠ 0 then ([], 0, (stText 4096 l at_ 0).2.2)
   else if fell acc ⟨(stText 4096 l at_ 0).1.toArray⟩ then ([], 0, 40)
   else rdGo l m (stText 4096 l at_ 0).2.1 (acc ++ [⟨(stText 4096 l at_ 0).1.toArray⟩])
def readL (l : List UInt8) : List ByteArray × Nat × Nat :=
 if (stNum l 0 0).2.2 ≠ 0 then ([], 0, (stNum l 0 0).2.2)
 else if 4194304 < (stNum l 0 0).1 then ([], 0, 4)
 else rdGo l (stNum l 0 0).1 (stNum l 0 0).2.1 []
structure RdRes (w w' : World) (xs : List ByteArray) (v : Value) : Prop where
 mod : Mod (fun _ => False) w w'
 val : ∃ a c, v = .slice a xs.length c ∧ Rd w' a (sts xs) ∧ ∀ b, blk a = some b → w.heap.size ≤ b
theorem RdRes.nil {w w' : World} (m : Mod (fun _ => False) w w') : RdRes w w' [] (.slice none 0 0) := ⟨m, none, 0, rfl, Rd.nil _ _, by intro b h; simp at h⟩
theorem ti22r : TI Tryz.prog 81 9 1 16 := TI.mk' (z := .string ByteArray.empty) (by kernel_rfl) (by kernel_rfl) rfl (by omega)
theorem fell_last {xs : List ByteArray} {t q : ByteArray} (h : xs[xs.length - 1]? = some q) (h0 : 0 < xs.length) : fell xs t = !blt q t := by
 unfold fell prevAt; rw [if_neg (by omega), h]
theorem rdGo_err {l : List UInt8} {m at_ : Nat} {acc : List ByteArray} (h : (stText 4096 l at_ 0).2.2 ≠ 0) : rdGo l (m + 1) at_ acc = ([], 0, (stText 4096 l at_ 0).2.2) := by
 rw [rdGo, if_pos h]
theorem rdGo_fell {l : List UInt8} {m at_ : Nat} {acc : List ByteArray} (h : (stText 4096 l at_ 0).2.2 = 0) (h2 : fell acc ⟨(stText 4096 l at_ 0).1.toArray⟩ = true) : rdGo l (m + 1) at_ acc = ([], 0, 40) := by
 rw [rdGo, if_neg (by simp [h]), if_pos h2]
theorem rdGo_on {l : List UInt8} {m at_ : Nat} {acc : List ByteArray} (h : (stText 4096 l at_ 0).2.2 = 0) (h2 : fell acc ⟨(stText 4096 l at_ 0).1.toArray⟩ = false) :
 rdGo l (m + 1) at_ acc = rdGo l m (stText 4096 l at_ 0).2.1 (acc ++ [⟨(stText 4096 l at_ 0).1.toArray⟩]) := by
 rw [rdGo, if_neg (by simp [h]), if_neg (by simp [h2])]
theorem RdAt.modE {S : Nat → Prop} {w w' : World} {p : Nat} {a : Option Addr} {c : Nat} {l : List UInt8} {at_ f : Nat} (h : RdAt w p a c l at_ f) (m : Mod S w w') (h1 : ¬ S p) (h2 : ∀ b, blk a = some b → l = [] ∨ ¬ S b) : RdAt w' p a c l at_ f :=
 ⟨h.ne, h.le, h.lc, h.len, m.at h.heap h1, by
  by_cases hl : l = []
  ·subst hl; exact Rd.nil _ _
  ·exact h.rd.mod m (fun b hb => (h2 b hb).resolve_left hl)⟩
theorem RdAt.blt {w : World} {p : Nat} {a : Option Addr} {c : Nat} {l : List UInt8} {at_ f : Nat} (h : RdAt w p a c l at_ f) (b : Nat) (hb : blk a = some b) : l = [] ∨ b < w.heap.size := by
 by_cases hl : l = []
 ·exact .inl hl
 ·exact .inr (h.rd.lt (by simpa [bts] using hl) b hb)
theorem symRead_any (a : Option Addr) (c : Nat) (l : List UInt8) (w : World) (hr : Rd w a (bts l)) (hlen : l.length < 2 ^ 40) (hnil : a = none → c = 0) :
 Calls Tryz.prog 128 #[.slice a l.length c] w fun e w' => ∃ v, e = .returned (.tuple #[v, .int .i64 (readL l).2.1, .int .i64 (readL l).2.2]) ∧ RdRes w w' (readL l).1 v := by
 have HR := Hi (fun (w : World) (h : Rd w a (bts l)) => newReader_any a c l w h hlen hnil)
 have HRD := Hi hr; clear hr hnil
 have hn0 : (stNum l 0 0).2.2 ≠ 0 → (stNum l 0 0).1 = 0 := by
  unfold stNum
  rw [if_neg (by simp)]
  split
  ·intro _; rfl
  ·intro h; simp at h
 unfold readL
 have HNum : Hid (∀ (w : World) p a1 c1, RdAt w p a1 c1 l 0 0 → Calls Tryz.prog 32 #[.pointer (some ⟨p, 0, none⟩)] w fun e w' => e = .returned (.int .u64 (stNum l 0 0).1) ∧
  RdAt w' p a1 c1 l (stNum l 0 0).2.1 (stNum l 0 0).2.2 ∧ Mod (fun b => b = p) w w') := fun w p a1 c1 h => rdNum_any p a1 c1 l 0 0 w h
 generalize stNum l 0 0 = g at *
 obtain ⟨n, at0, f0⟩ := g
 simp only at *
 by_cases hf0 : f0 = 0
 ·subst hf0
  rw [if_neg (by simp)]
  clear hn0
  by_cases hbig : 4194304 < n
  ·rw [if_pos hbig]
   go_enter Tryz.func128, Tryz.ntmps128
   go_wp2_with (first
    |(go_at_call 31; refine (HR.out _ HRD.out).mono ?_; rintro e w1 ⟨p, a1, c1, rfl, h1, hp, hM1, hb1⟩
      have H1 := Hi h1; have HM1 := Hi hM1; clear h1 hM1)
    |(go_at_call 32; refine (HNum.out _ p a1 c1 H1.out).mono ?_; rintro e w2 ⟨rfl, h2, hM2⟩
      have H2 := Hi h2; have HM2 := Hi (HM1.out.step hM2 (fun i hi hs => by omega)); clear h2 hM2)
    |(go_at_call 34; refine (rerr_any p _ _ 0 _ _ H2.out.heap).mono ?_; rintro e w' ⟨rfl, rfl⟩))
   go_ret3
   exact ⟨.slice none 0 0, rfl, RdRes.nil HM2.out⟩
  ·rw [if_neg hbig]
   go_enter Tryz.func128, Tryz.ntmps128
   go_wp2_with (first
    |(go_at_call 31; refine (HR.out _ HRD.out).mono ?_; rintro e w1 ⟨p, a1, c1, rfl, h1, hp, hM1, hb1⟩
      have H1 := Hi h1; have HM1 := Hi hM1; clear h1 hM1)
    |(go_at_call 32; refine (HNum.out _ p a1 c1 H1.out).mono ?_; rintro e w2 ⟨rfl, h2, hM2⟩
      have H2 := Hi h2; have HM2 := Hi (HM1.out.step hM2 (fun i hi hs => by omega)); clear h2 hM2)
    |(go_at_call 34; refine (rerr_any p _ _ 0 _ _ H2.out.heap).mono ?_; rintro e w' ⟨rfl, rfl⟩))
   clear HR HRD HNum H1 HM1
   go_loopw [7, 8] (fun t i wr => ∃ (acc : List ByteArray) (a2 : Option Addr) (c2 k at_ : Nat), t = .slice a2 k c2 ∧ i = .int .u64 k ∧ k ≤ n ∧ Hid (acc.length = k) ∧ Hid (Own wr 9 1 a2 k c2 (sts acc)) ∧ Hid (RdAt wr p a1 c1 l at_ 0) ∧
    Hid (∀ b, blk a2 = some b → w.heap.size ≤ b ∧ b ≠ p ∧ (l = [] ∨ blk a1 ≠ some b)) ∧ Hid (Mod (fun _ => False) w wr) ∧ Hid (rdGo l n at0 [] = rdGo l (n - k) at_ acc)) (fun t i _ => n - (intOf i).toNat)
   case atStart => exact ⟨[], none, 0, 0, at0, rfl, rfl, by omega, rfl, Own.nil _ _ _, H2, by intro b h; simp at h, HM2, rfl⟩
   case round =>
    obtain ⟨acc, a2, c2, k, at_, rfl, rfl, hk, hL, hO, hR, hB, hM, hE⟩ := hrel
    by_cases hlt : k < n
    ·have hT := rdText_any p a1 c1 4096 l at_ 0 wr hR.out (by omega)
     obtain ⟨m, hm⟩ : ∃ m, m = n - (k + 1) := ⟨_, rfl⟩
     have hnk : n - k = m + 1 := by omega
     have hErr := fun h => rdGo_err (l := l) (m := m) (at_ := at_) (acc := acc) h
     have hFell := fun h h2 => rdGo_fell (l := l) (m := m) (at_ := at_) (acc := acc) h h2
     have hOn := fun h h2 => rdGo_on (l := l) (m := m) (at_ := at_) (acc := acc) h h2
     rw [← hnk, ← hE.out] at hErr hFell hOn
     generalize stText 4096 l at_ 0 = g at *
     obtain ⟨x, at2, e2⟩ := g
     simp only at *
     generalize (⟨x.toArray⟩ : ByteArray) = t at *
     clear x
     have HT := Hi hT; have HErr := Hi hErr; have HFell := Hi hFell; have HOn := Hi hOn; have HMM := Hi hm
     clear hT hErr hFell hOn hm hnk hE
     by_cases he2 : e2 = 0
     ·subst he2
      clear HErr
      by_cases hk0 : 0 < k
      ·obtain ⟨g, rfl⟩ := hO.out.atHead (by omega)
       have hgp : g ≠ p := (hB.out g rfl).2.1
       have hq1 : k - 1 < acc.length := by have := hL.out; omega
       have hcq : wr.cell? ⟨g, k - 1, none⟩ = some (.string acc[k - 1]) := by
        obtain ⟨b, o, e, hc⟩ := hO.out.rd (k - 1) (.string acc[k - 1]) (by simp [sts, hq1])
        cases e
        simpa using hc
       have hfe : fell acc t = !blt acc[k - 1] t := fell_last (by have := hL.out; subst this; simp [hq1]) (by omega)
       generalize acc[k - 1] = q at *
       have hkn : ((k : Int) - 1).toNat = k - 1 := by omega
       by_cases hb2 : blt q t = true
       ·have hb3 : (Op.bytesLess t.toList q.toList || t.toList == q.toList) = false := by rw [ble_not, hb2]; rfl
        rw [hb2] at hfe
        have HB2 := Hi hb2; have HFE := Hi hfe; clear hb2 hfe HFell
        go_wp2_with (first
         |(go_at_call 33; refine HT.out.mono ?_; rintro e w3 ⟨rfl, h3, hM3⟩
           have hcq3 := hM3.cell hcq hgp; clear hcq
           have H3 := Hi h3; have HM3 := Hi hM3; clear h3 hM3)
         |(go_at_call 34; refine (rerr_any p _ _ 0 _ _ H3.out.heap).mono ?_; rintro e w' ⟨rfl, rfl⟩)
         |(at_builtin; refine wpL_appendN (us := [_]) rfl (.tmp 46) (.tmp 48) 81 rfl ti22r rfl (hO.out.mod HM3.out (by intro b hb; simp at hb; omega)) rfl rfl rfl (by omega) (by unfold maxLen; omega) ?_; intro a4 c4 w4 hO4 hG4 _
           have HO4 := Hi hO4; have HG4 := Hi hG4; clear hO4 hG4))
        go_roundw
        case rel =>
         refine ⟨acc ++ [t], a4, c4, k + 1, at2, rfl, by go_num, by omega, by unfold Hid; rw [List.length_append, hL.out]; rfl, Hi (by rw [sts_append]; exact HO4.out), Hi (H3.out.modE HG4.out.mod (by simp; exact hgp) (fun b hb => (hB.out g rfl).2.2.imp id (fun h e => h (by simp at e; subst e; exact hb)))), ?_, ?_, Hi (by rw [HOn.out (by simp) HFE.out, HMM.out])⟩
         ·intro b hb
          rcases HG4.out.pos with e | ⟨b', e, hb'⟩
          ·rw [e] at hb; exact hB.out b hb
          ·rw [e] at hb; cases hb
           have h1 := hM.out.size
           have h2 := HM3.out.size
           have h3 := (Array.getElem?_eq_some_iff.1 H3.out.heap).1
           refine ⟨by omega, by omega, ?_⟩
           by_cases hl : l = []
           ·exact .inl hl
           ·refine .inr (fun h => ?_)
            have := (H3.out.blt _ h).resolve_left hl
            omega
         ·exact (hM.out.step HM3.out (fun i hi hs => by omega)).step HG4.out.mod (fun i hi hs => by have := (hB.out g rfl).1; simp at hs; omega)
        case measure => simp [intOf]; omega
       ·have hb3 : (Op.bytesLess t.toList q.toList || t.toList == q.toList) = true := by rw [ble_not]; simpa using hb2
        have hfe2 : fell acc t = true := by rw [hfe]; simpa using hb2
        have HFE := Hi hfe2; clear hb2 hfe hfe2 HOn
        go_wp2_with (first
         |(go_at_call 33; refine HT.out.mono ?_; rintro e w3 ⟨rfl, h3, hM3⟩
           have hcq3 := hM3.cell hcq hgp; clear hcq
           have H3 := Hi h3; have HM3 := Hi (hM.out.step hM3 (fun i hi hs => by omega)); clear h3 hM3)
         |(go_at_call 34; refine (rerr_any p _ _ 0 _ _ H3.out.heap).mono ?_; rintro e w' ⟨rfl, rfl⟩))
        go_ret3
        rw [HFell.out (by simp) HFE.out]
        exact ⟨.slice none 0 0, rfl, RdRes.nil HM3.out⟩
      ·obtain rfl : k = 0 := by omega
       have hacc : acc = [] := List.eq_nil_of_length_eq_zero hL.out
       subst hacc
       obtain ⟨rfl, _, rfl⟩ | ⟨g, _, rfl, _⟩ := hO.out.2
       ·clear HFell
        go_wp2_with (first
         |(go_at_call 33; refine HT.out.mono ?_; rintro e w3 ⟨rfl, h3, hM3⟩
           skip
           have H3 := Hi h3; have HM3 := Hi hM3; clear h3 hM3)
         |(go_at_call 34; refine (rerr_any p _ _ 0 _ _ H3.out.heap).mono ?_; rintro e w' ⟨rfl, rfl⟩)
         |(at_builtin; refine wpL_appendN (us := [_]) rfl (.tmp 46) (.tmp 48) 81 rfl ti22r rfl (hO.out.mod HM3.out (by intro b hb; simp at hb)) rfl rfl rfl (by omega) (by unfold maxLen; omega) ?_; intro a4 c4 w4 hO4 hG4 _
           have HO4 := Hi hO4; have HG4 := Hi hG4; clear hO4 hG4))
        go_roundw
        case rel =>
         refine ⟨[] ++ [t], a4, c4, 0 + 1, at2, rfl, by go_num, by omega, by unfold Hid; rw [List.length_append, hL.out]; rfl, Hi (by rw [sts_append]; exact HO4.out), Hi (H3.out.modE HG4.out.mod (by simp) (by simp)), ?_, ?_, Hi (by rw [HOn.out (by simp) rfl, HMM.out])⟩
         ·intro b hb
          rcases HG4.out.pos with e | ⟨b', e, hb'⟩
          ·rw [e] at hb; exact hB.out b hb
          ·rw [e] at hb; cases hb
           have h1 := hM.out.size
           have h2 := HM3.out.size
           have h3 := (Array.getElem?_eq_some_iff.1 H3.out.heap).1
           refine ⟨by omega, by omega, ?_⟩
           by_cases hl : l = []
           ·exact .inl hl
           ·refine .inr (fun h => ?_)
            have := (H3.out.blt _ h).resolve_left hl
            omega
         ·exact (hM.out.step HM3.out (fun i hi hs => by omega)).step HG4.out.mod (fun i hi hs => by simp at hs)
        case measure => simp [intOf]; omega
       ·clear HFell
        have hgp : g ≠ p := (hB.out g rfl).2.1
        go_wp2_with (first
         |(go_at_call 33; refine HT.out.mono ?_; rintro e w3 ⟨rfl, h3, hM3⟩
           skip
           have H3 := Hi h3; have HM3 := Hi hM3; clear h3 hM3)
         |(go_at_call 34; refine (rerr_any p _ _ 0 _ _ H3.out.heap).mono ?_; rintro e w' ⟨rfl, rfl⟩)
         |(at_builtin; refine wpL_appendN (us := [_]) rfl (.tmp 46) (.tmp 48) 81 rfl ti22r rfl (hO.out.mod HM3.out (by intro b hb; simp at hb; omega)) rfl rfl rfl (by omega) (by unfold maxLen; omega) ?_; intro a4 c4 w4 hO4 hG4 _
           have HO4 := Hi hO4; have HG4 := Hi hG4; clear hO4 hG4))
        go_roundw
        case rel =>
         refine ⟨[] ++ [t], a4, c4, 0 + 1, at2, rfl, by go_num, by omega, by unfold Hid; rw [List.length_append, hL.out]; rfl, Hi (by rw [sts_append]; exact HO4.out), Hi (H3.out.modE HG4.out.mod (by simp; exact hgp) (fun b hb => (hB.out g rfl).2.2.imp id (fun h e => h (by simp at e; subst e; exact hb)))), ?_, ?_, Hi (by rw [HOn.out (by simp) rfl, HMM.out])⟩
         ·intro b hb
          rcases HG4.out.pos with e | ⟨b', e, hb'⟩
          ·rw [e] at hb; exact hB.out b hb
          ·rw [e] at hb; cases hb
           have h1 := hM.out.size
           have h2 := HM3.out.size
           have h3 := (Array.getElem?_eq_some_iff.1 H3.out.heap).1
           refine ⟨by omega, by omega, ?_⟩
           by_cases hl : l = []
           ·exact .inl hl
           ·refine .inr (fun h => ?_)
            have := (H3.out.blt _ h).resolve_left hl
            omega
         ·exact (hM.out.step HM3.out (fun i hi hs => by omega)).step HG4.out.mod (fun i hi hs => by have := (hB.out g rfl).1; simp at hs; omega)
        case measure => simp [intOf]; omega
     ·have hgb : ((e2 : Int) != 0) = true := by simp; omega
      have HG := Hi he2; clear he2 HFell HOn
      go_wp2_with (first
       |(go_at_call 33; refine HT.out.mono ?_; rintro e w3 ⟨rfl, h3, hM3⟩
         have H3 := Hi h3; have HM3 := Hi (hM.out.step hM3 (fun i hi hs => by omega)); clear h3 hM3)
       |(go_at_call 34; refine (rerr_any p _ _ e2 _ _ H3.out.heap).mono ?_; rintro e w' ⟨rfl, rfl⟩))
      go_ret3
      rw [HErr.out HG.out]
      exact ⟨.slice none 0 0, rfl, RdRes.nil HM3.out⟩
    ·obtain rfl : k = n := by omega
     go_wp2_with (first
      |(go_at_call 34; refine (rerr_any p _ _ 0 _ _ hR.out.heap).mono ?_; rintro e w' ⟨rfl, rfl⟩)
      |(go_at_call 129; refine (rat_any p _ _ at_ _ _ hR.out.heap).mono ?_; rintro e w' ⟨rfl, rfl⟩))
     go_ret3
     have := hE.out
     rw [Nat.sub_self, rdGo] at this
     rw [this]
     exact ⟨.slice a2 k c2, rfl, hM.out, a2, c2, by rw [hL.out], hO.out.rd, fun b hb => (hB.out b hb).1⟩
 ·have hfb1 : ((f0 : Int) == 0) = false := by simp; omega
  have hfb2 : ((f0 : Int) != 0) = true := by simp; omega
  obtain rfl : n = 0 := hn0 (by simpa using hf0)
  rw [if_pos (by simpa using hf0)]
  have HF := Hi hf0; clear hf0 hn0
  go_enter Tryz.func128, Tryz.ntmps128
  go_wp2_with (first
   |(go_at_call 31; refine (HR.out _ HRD.out).mono ?_; rintro e w1 ⟨p, a1, c1, rfl, h1, hp, hM1, hb1⟩
     have H1 := Hi h1; have HM1 := Hi hM1; clear h1 hM1)
   |(go_at_call 32; refine (HNum.out _ p a1 c1 H1.out).mono ?_; rintro e w2 ⟨rfl, h2, hM2⟩
     have H2 := Hi h2; have HM2 := Hi (HM1.out.step hM2 (fun i hi hs => by omega)); clear h2 hM2)
   |(go_at_call 34; refine (rerr_any p _ _ f0 _ _ H2.out.heap).mono ?_; rintro e w' ⟨rfl, rfl⟩))
  clear HR HRD HNum H1 HM1
  go_loopw [7, 8] (fun t i wr => t = .slice none 0 0 ∧ i = .int .u64 0 ∧ wr = w2) (fun t i _ => 0)
  case atStart => exact ⟨rfl, rfl, rfl⟩
  case round =>
   obtain ⟨rfl, rfl, rfl⟩ := hrel
   go_wp2_with (first
    |(go_at_call 34; refine (rerr_any p _ _ f0 _ _ H2.out.heap).mono ?_; rintro e w' ⟨rfl, rfl⟩))
   go_ret3
   exact ⟨.slice none 0 0, rfl, RdRes.nil HM2.out⟩
end Go.Proofs.YtjoiaejbahdjkaaGreat
