/-
  The document's Laid: walked.
-/
import Derived.Test.YtjoiaejbahdjkaaGreatFgD
import Derived.Test.YtjoiaejbahdjkaaGreatColE
import Derived.Deep.CutRange
namespace Go.Proofs.YtjoiaejbahdjkaaGreat
open Go Go.RowKit Go.Mine
set_option linter.unusedVariables false
set_option maxHeartbeats 8000000
set_option maxRecDepth 100000
theorem RS.grow {w0 w w' : World} {is : List It} {e : TypeId} {j : Nat} {a a' : Option Addr} {n c n' c' : Nat} {xs xs' : List Value} (h : RS w0 w is) {k : Nat} (hk : k < is.length) (hi : is[k] = ownI e j a n c xs) (hG : Grow w a w' a') (hO : Mine.Own w' e j a' n' c' xs') : RS w0 w' (is.set k (ownI e j a' n' c' xs')) :=
 h.set hk (by rw [hi]; exact hG.mod) hO (fun b hb => by
  rw [hi]
  rcases hG.pos with e | ⟨g, e, hg⟩
  ·exact .inl (show blk a = some b by rw [← e]; exact hb)
  ·right
   have hb2 : blk a' = some b := hb
   rw [e] at hb2
   cases hb2; exact hg)
theorem pgErr_up : ∀ (l : List ByteArray) (p : Option ByteArray), Up blt l → (∀ q, p = some q → ∀ s, l.head? = some s → blt q s = true) → (∀ s ∈ l, s.size ≤ 4096) → pgErr p l = 0
 | [], p, _, _, _ => by cases p <;> rfl
 | s :: r, p, hu, hp, hs => by
   have h2 := List.pairwise_cons.1 hu
   have h1 : ¬ 4096 < s.size := by have := hs s (by simp); omega
   have go : pgErr (some s) r = 0 := by
    refine pgErr_up r (some s) h2.2 (fun q hq t ht => ?_) (fun x hx => hs x (List.mem_cons_of_mem _ hx))
    cases hq
    cases r with
    | nil => cases ht
    | cons y r => cases ht; exact h2.1 _ List.mem_cons_self
   cases p with
   | none => rw [pgErr_cons, if_neg h1]; simpa using go
   | some q => rw [pgErr_cons, if_neg h1]; have := hp q rfl s rfl; simp [this, go]
def sumL (l : List ByteArray) : Nat := (l.map fun s => s.size).sum
theorem sumL_le : ∀ l : List ByteArray, sumL l ≤ (pgBody l).length
 | [] => by simp [sumL]
 | s :: l => by
   have h := sumL_le l
   have h4 : s.data.toList.length = s.size := (Lib.size_eq s).symm
   simp only [sumL, List.map_cons, List.sum_cons, pgBody, List.flatMap_cons, List.length_append] at h ⊢
   omega
theorem sumL_big {l : List ByteArray} (h : ∀ s ∈ l, s.size ≤ 4096) : sumL l ≤ 4096 * l.length := by
 induction l with
 | nil => simp [sumL]
 | cons s l ih =>
   have h1 := h s (by simp)
   have h2 := ih (fun x hx => h x (List.mem_cons_of_mem _ hx))
   simp only [sumL, List.map_cons, List.sum_cons, List.length_cons] at h2 ⊢
   omega
theorem sumL_snoc (l : List ByteArray) (k : Nat) (h : k < l.length) : sumL (l.take (k + 1)) = sumL (l.take k) + l[k].size := by
 unfold sumL; rw [List.take_succ_eq_append_getElem h]; simp only [List.map_append, List.sum_append, List.map_cons, List.map_nil, List.sum_cons, List.sum_nil, Nat.add_zero]
theorem not_same {w : World} {S : Nat} {vs : Array Value} {t : TypeId} (h : w.heap[S]? = some (.cells vs t (0, 0))) (hv : ∀ (o : Nat) (x : Int), vs[o]? ≠ some (.int .u8 x)) {a : Option Addr} {l : List UInt8} (hr : Rd w a (bts l)) (hl : l ≠ []) : blk a ≠ some S := by
 intro e
 cases l with
 | nil => exact hl rfl
 | cons x r =>
   obtain ⟨b, o, rfl, hc⟩ := hr 0 (.int .u8 x.toNat) rfl
   have hb : b = S := by simpa [blk] using e
   subst hb
   have h2 : vs[o]? = some (.int .u8 (x.toNat : Nat)) := by
    have h3 := hc
    simp [World.cell?, h] at h3
    simpa using h3
   exact hv o _ h2
def headB (body : List UInt8) : List UInt8 := magicL ++ fourL (14 + body.length) ++ body
def fileL (body : List UInt8) : List UInt8 := headB body ++ fourL (crcL (headB body))
def LaidP (nm : ByteArray) (A : Nat) (rows : List (List ByteArray)) (w : World) (e : Ending) (w' : World) : Prop :=
 (((16777216 < sumL (textsL (riseG belowL rows)) ∨ 16777216 < 14 + (bodyL nm.data.toList A rows).length) ∧ e = .returned (.tuple #[.slice none 0 0, .agg #[.string ⟨#[]⟩, .int .i64 0, .int .i64 0, .int .i64 0, .int .i64 0, .slice none 0 0], .int .i64 3])) ∨
   (∃ oa oc pa pc, 14 + (bodyL nm.data.toList A rows).length ≤ 16777216 ∧ e = .returned (.tuple #[.slice oa (fileL (bodyL nm.data.toList A rows)).length oc, .agg #[.string nm, .int .i64 A, .int .i64 (riseG belowL rows).length, .int .i64 (textsL (riseG belowL rows)).length, .int .i64 (pgBytes (textsL (riseG belowL rows))).length, .slice pa A pc], .int .i64 0]) ∧
    Rd w' oa (bts (fileL (bodyL nm.data.toList A rows))) ∧ Rd w' pa (ns ((colsL A (riseG belowL rows)).map fun c => (encL c).length)) ∧ ∀ b, blk pa = some b → w.heap.size ≤ b)) ∧ Mod (fun _ => False) w w'
theorem laidR7_any (nm : ByteArray) (A : Nat) (a : Option Addr) (c : Nat) (ha : List Value) (rows : List (List ByteArray)) (w : World) (h : RelI w nm A a c ha rows) :
 Calls Tryz.prog 97 #[.agg #[.string nm, .int .i64 A, .slice a rows.length c]] w (LaidP nm A rows w) := by
 have H := Hi h
 have hA := h.al
 have hnl := h.nl
 have hspec := rise_spec strict_below _ rows (Nat.le_refl _)
 have HRL : Hid (∀ r ∈ riseG belowL rows, r.length = A) := Hi (fun r hr => h.len r ((hspec.2.1 r).1 hr))
 have HRS : Hid (∀ r ∈ riseG belowL rows, ∀ s ∈ r, s.size ≤ 4096) := Hi (fun r hr => h.sz r ((hspec.2.1 r).1 hr))
 have hnr : (riseG belowL rows).length ≤ 65536 := Nat.le_trans hspec.2.2 h.few
 have HUP := Hi (texts_spec (riseG belowL rows))
 have hnL : (textsL (riseG belowL rows)).length ≤ 4194304 := by
  have h1 := HUP.out.2.2
  rw [flat_len _ HRL.out] at h1
  have h2 : (riseG belowL rows).length * A ≤ 65536 * 64 := Nat.mul_le_mul hnr hA
  omega
 have HSZ : Hid (∀ s ∈ textsL (riseG belowL rows), s.size ≤ 4096) := Hi (fun s hs => by
  obtain ⟨r, hr, hs2⟩ := List.mem_flatten.1 ((HUP.out.2.1 s).1 hs)
  exact HRS.out r hr s hs2)
 have HPE : Hid (pgErr none (textsL (riseG belowL rows)) = 0) := Hi (pgErr_up _ none HUP.out.1 (fun q hq => by cases hq) HSZ.out)
 have HRIS := Hi (fun W (m : Mod (fun _ => False) w W) => rising_any _ a c ha rows A W (Nat.le_refl _) (h.rd.mod0 m) h.len (by omega) (by have := h.few; omega) h.cap)
 have HMAY := Hi (fun W (m : Mod (fun _ => False) w W) => may_any nm A a c ha rows W (h.mod0 m))
 clear h hspec
 have HBD : Hid (bodyL nm.data.toList A rows = formL nm.data.toList A (riseG belowL rows).length (textsL (riseG belowL rows)) (colsL A (riseG belowL rows))) := Hi rfl
 obtain ⟨R, hR⟩ : ∃ R, R = riseG belowL rows := ⟨_, rfl⟩
 have HREQ := Hi hR
 unfold RisP at HRIS
 rw [← hR] at HRL HRS hnr HUP hnL HSZ HPE HRIS HBD
 clear hR
 obtain ⟨L, hL⟩ : ∃ L, L = textsL R := ⟨_, rfl⟩
 have HLEQ := Hi hL
 rw [← hL] at HUP hnL HSZ HPE HBD
 clear hL
 obtain ⟨n, hn⟩ : ∃ n, n = rows.length := ⟨_, rfl⟩
 rw [← hn] at HRIS HMAY ⊢
 clear hn
 obtain ⟨nr, hnr2⟩ : ∃ nr, nr = R.length := ⟨_, rfl⟩
 have HNR := Hi hnr2
 rw [← hnr2] at hnr HRIS
 clear hnr2
 obtain ⟨nl, hnl2⟩ : ∃ nl, nl = L.length := ⟨_, rfl⟩
 have HNLL := Hi hnl2
 rw [← hnl2] at hnL
 clear hnl2
 go_enter Tryz.func97, Tryz.ntmps97
 go_wp2_with fail
 have HS1 : Hid (RS w ((w.alloc (.cells #[.string nm, .int .i64 A, .slice a n c] 86)).alloc (.cells #[.string ⟨#[]⟩, .int .i64 0, .int .i64 0, .int .i64 0, .int .i64 0, .slice none 0 0] 120)) [boxI w.heap.size #[.string nm, .int .i64 A, .slice a n c] 86, boxI (w.heap.size + 1) #[.string ⟨#[]⟩, .int .i64 0, .int .i64 0, .int .i64 0, .int .i64 0, .slice none 0 0] 120]) := Hi (by
  have h0 : RS w w [] := ⟨Fam.nil (Nat.le_refl _), Mod.refl _ _⟩
  have h1 := h0.push (i' := boxI w.heap.size #[.string nm, .int .i64 A, .slice a n c] 86) ((Mod.refl _ w).alloc (.cells #[.string nm, .int .i64 A, .slice a n c] 86)) (heap_alloc_new w _) (fun b hb => Nat.le_of_eq (Eq.symm hb))
  have e1 : (w.alloc (.cells #[.string nm, .int .i64 A, .slice a n c] 86)).heap.size = w.heap.size + 1 := by simp
  exact h1.push (i' := boxI (w.heap.size + 1) #[.string ⟨#[]⟩, .int .i64 0, .int .i64 0, .int .i64 0, .int .i64 0, .slice none 0 0] 120) ((Mod.refl _ _).alloc (.cells #[.string ⟨#[]⟩, .int .i64 0, .int .i64 0, .int .i64 0, .int .i64 0, .slice none 0 0] 120)) (by have h := heap_alloc_new (w.alloc (.cells #[.string nm, .int .i64 A, .slice a n c] 86)) (.cells #[.string ⟨#[]⟩, .int .i64 0, .int .i64 0, .int .i64 0, .int .i64 0, .slice none 0 0] 120); rw [e1] at h; exact h) (fun b hb => Nat.le_of_eq (by rw [e1]; exact Eq.symm hb)))
 obtain ⟨B, hB⟩ : ∃ B, B = w.heap.size := ⟨_, rfl⟩
 rw [← hB] at HS1 ⊢
 have HB := Hi hB
 clear hB
 generalize (w.alloc (.cells #[.string nm, .int .i64 A, .slice a n c] 86)).alloc (.cells #[.string ⟨#[]⟩, .int .i64 0, .int .i64 0, .int .i64 0, .int .i64 0, .slice none 0 0] 120) = w1 at *
 refine (HMAY.out w1 HS1.out.md).mono ?_
 rintro e w2 ⟨rfl, hm2⟩
 have HS2 := Hi (HS1.out.mod0 hm2)
 clear hm2 HS1 HMAY
 have x2 : w2.cell? ⟨B, 2, none⟩ = some (.slice a n c) := cell_at (HS2.out.get (k := 0) (by simp)) rfl
 go_wp2_with fail
 refine (HRIS.out w2 HS2.out.md).mono ?_
 rintro e w3 ⟨⟨ra, rc, rhs, rfl, g3⟩, m3⟩
 have HS3 := Hi (HS2.out.mod0 m3)
 have HTX := Hi (textsR_any ra rc rhs R A w3 g3 HRL.out hA (by rw [← HNR.out]; exact hnr))
 unfold TxP at HTX
 rw [← HLEQ.out, ← HNR.out, ← HNLL.out] at HTX
 have HG3 := Hi g3
 clear m3 g3 HS2 HRIS x2
 go_wp2_with fail
 refine HTX.out.mono ?_
 rintro e w4 ⟨⟨la, lc, rfl, hl4⟩, m4⟩
 have HS4 := Hi (HS3.out.mod0 m4)
 have HR4 := Hi (HG3.out.mod0 m4)
 have HL4 := Hi hl4
 have HMW := Hi HS4.out.md
 have HBX : Hid (w4.heap[B]? = some (.cells #[.string nm, .int .i64 A, .slice a n c] 86 (0, 0))) := Hi (HS4.out.get (k := 0) (by simp))
 have HBR : Hid (w4.heap[B + 1]? = some (.cells #[.string ⟨#[]⟩, .int .i64 0, .int .i64 0, .int .i64 0, .int .i64 0, .slice none 0 0] 120 (0, 0))) := Hi (HS4.out.get (k := 1) (by simp))
 clear m4 hl4 HS3 HTX HG3 HS4
 have x0 := cell_at (j := 0) HBX.out rfl
 have x1 := cell_at (j := 1) HBX.out rfl
 have y0 := cell_at (j := 0) (((Mod.refl (fun _ => False) w4).alloc (.cells #[.string nm, .int .i64 A, .int .i64 nr, .int .i64 nl, .int .i64 0, .slice none 0 0] 120)).at HBX.out id) rfl
 have HTT := Hi (fun W => textR_any none 0 [] nm W (Mine.Own.nil _ _ _) (by simp) (by omega))
 go_wp2_with fail
 have HQ5 : Hid (RS w4 (w4.alloc (.cells #[.string nm, .int .i64 A, .int .i64 nr, .int .i64 nl, .int .i64 0, .slice none 0 0] 120)) [boxI w4.heap.size #[.string nm, .int .i64 A, .int .i64 nr, .int .i64 nl, .int .i64 0, .slice none 0 0] 120]) := Hi (by
  have h0 : RS w4 w4 [] := ⟨Fam.nil (Nat.le_refl _), Mod.refl _ _⟩
  exact h0.push (i' := boxI w4.heap.size #[.string nm, .int .i64 A, .int .i64 nr, .int .i64 nl, .int .i64 0, .slice none 0 0] 120) ((Mod.refl _ w4).alloc _) (heap_alloc_new w4 _) (fun b hb => Nat.le_of_eq (Eq.symm hb)))
 obtain ⟨S, hS⟩ : ∃ S, S = w4.heap.size := ⟨_, rfl⟩
 rw [← hS] at HQ5 ⊢
 have HS := Hi hS
 clear hS x0 x1 y0
 generalize w4.alloc (.cells #[.string nm, .int .i64 A, .int .i64 nr, .int .i64 nl, .int .i64 0, .slice none 0 0] 120) = w5 at *
 refine (HTT.out w5).mono ?_
 rintro e w6 ⟨a6, c6, rfl, hO6, hG6⟩
 have HQ6 := Hi (HQ5.out.push (i' := ownI 5 1 a6 (([] : List UInt8) ++ lebl nm.size ++ nm.data.toList).length c6 (bts (([] : List UInt8) ++ lebl nm.size ++ nm.data.toList))) hG6.mod0 hO6 hG6.fresh)
 clear HTT HQ5 hO6 hG6
 have hle0 := lebl_len64 nm.size (by omega)
 have ht6 : (([] : List UInt8) ++ lebl nm.size ++ nm.data.toList).length = (lebl nm.size).length + nm.size := by rw [List.nil_append, List.length_append, ← Lib.size_eq nm]
 obtain ⟨bs6, hbs6⟩ : ∃ bs, bs = ([] : List UInt8) ++ lebl nm.size ++ nm.data.toList := ⟨_, rfl⟩
 rw [← hbs6] at ht6 HQ6 ⊢
 have HB6 := Hi hbs6
 clear hbs6
 obtain ⟨t6, ht⟩ : ∃ t, t = bs6.length := ⟨_, rfl⟩
 rw [← ht] at ht6 HQ6 ⊢
 clear ht
 have hb6 : t6 ≤ 5000 := by omega
 have HT6 := Hi ht6
 clear ht6
 have x1 : w6.cell? ⟨B, 1, none⟩ = some (.int .i64 A) := cell_at (HQ6.out.md.at HBX.out id) rfl
 go_upto_region 9 with (first
  |(go_at_call 88; refine (put_any A _ (by omega)).mono ?_; rintro e w7 ⟨g2, c2, rfl, hO2, hg2, hM2⟩
    have HO2 := Hi hO2; have HQM := Hi (HQ6.out.mod0 hM2); clear hO2 hM2
    have hle1 := lebl_len64 A (by omega)
    have HOB : Hid (Mine.Own w7 5 1 a6 t6 c6 (bts bs6)) := Hi (HQM.out.get (k := 1) (by simp)))
  |(at_builtin; refine wpL_append rfl (.tmp 44) (.tmp 48) 23 23 rfl ti24 rfl HOB.out rfl (Src.ofRd ti24.ht _ _ HO2.out.rd (by simp) (bts_one _)) (by omega) (by unfold maxLen; omega) ?_; intro a8 c8 w8 hO3 hG3 _
    have HQ8 : Hid (RS w4 w8 [boxI S #[.string nm, .int .i64 A, .int .i64 nr, .int .i64 nl, .int .i64 0, .slice none 0 0] 120, ownI 5 1 a8 (t6 + (lebl A).length) c8 (bts (bs6 ++ lebl A))]) := Hi (HQM.out.grow (k := 1) (by simp) rfl hG3 (by rw [bts_append]; exact hO3))
    clear hO3 hG3 HQM HOB HO2))
 obtain ⟨bs8, hbs⟩ : ∃ bs, bs = bs6 ++ lebl A := ⟨_, rfl⟩
 obtain ⟨t8, ht⟩ : ∃ t, t = t6 + (lebl A).length := ⟨_, rfl⟩
 rw [← hbs, ← ht] at HQ8
 rw [← ht]
 have HB8 := Hi hbs
 have hb8 : t8 ≤ 6000 := by omega
 clear hbs ht
 go_upto_region 10 with (first
  |(go_at_call 88; refine (put_any nr _ (by omega)).mono ?_; rintro e w9 ⟨g2, c2, rfl, hO2, hg2, hM2⟩
    have HO2 := Hi hO2; have HQM := Hi (HQ8.out.mod0 hM2); clear hO2 hM2
    have hle2 := lebl_len64 nr (by omega)
    have HOB : Hid (Mine.Own w9 5 1 a8 t8 c8 (bts bs8)) := Hi (HQM.out.get (k := 1) (by simp)))
  |(at_builtin; refine wpL_append rfl (.tmp 50) (.tmp 54) 23 23 rfl ti24 rfl HOB.out rfl (Src.ofRd ti24.ht _ _ HO2.out.rd (by simp) (bts_one _)) (by omega) (by unfold maxLen; omega) ?_; intro a10 c10 w10 hO3 hG3 _
    have HQ10 : Hid (RS w4 w10 [boxI S #[.string nm, .int .i64 A, .int .i64 nr, .int .i64 nl, .int .i64 0, .slice none 0 0] 120, ownI 5 1 a10 (t8 + (lebl nr).length) c10 (bts (bs8 ++ lebl nr))]) := Hi (HQM.out.grow (k := 1) (by simp) rfl hG3 (by rw [bts_append]; exact hO3))
    clear hO3 hG3 HQM HOB HO2))
 obtain ⟨bs10, hbs⟩ : ∃ bs, bs = bs8 ++ lebl nr := ⟨_, rfl⟩
 obtain ⟨t10, ht⟩ : ∃ t, t = t8 + (lebl nr).length := ⟨_, rfl⟩
 rw [← hbs, ← ht] at HQ10
 rw [← ht]
 have HB10 := Hi hbs
 have hb10 : t10 ≤ 7000 := by omega
 clear hbs ht
 clear x1 hle0 hle1 hle2 hb6 hb8
 go_wp2_with fail
 go_loopw [10, 11] (fun av iv wr => ∃ i : Nat, iv = .int .i64 i ∧ i ≤ nl ∧ av = .int .i64 (sumL (L.take i)) ∧ wr = w10) (fun _ iv _ => nl - (intOf iv).toNat)
 case atStart => exact ⟨0, rfl, Nat.zero_le _, rfl, rfl⟩
 case round =>
  obtain ⟨i, rfl, hi, rfl, hww⟩ := hrel
  obtain rfl : w10 = wr := hww.symm
  clear hww
  have hsb : sumL (L.take i) ≤ 4096 * 4194304 := by
   have h1 := sumL_big (l := L.take i) (fun s hs => HSZ.out s (List.mem_of_mem_take hs))
   have h2 : (L.take i).length ≤ 4194304 := by rw [List.length_take]; have := HNLL.out; omega
   omega
  by_cases hlt : i < nl
  ·have hil : i < L.length := by have := HNLL.out; omega
   obtain ⟨b1, o1, rfl, x0'⟩ := str_cell HL4.out hil
   have x0 := HQ10.out.md.cell x0' id
   have hs4 : L[i].size ≤ 4096 := HSZ.out _ (List.getElem_mem hil)
   have HSN := Hi (sumL_snoc L i hil)
   generalize L[i] = s at *
   clear x0' hil
   generalize sumL (L.take i) = u at *
   go_wp2_with fail
   go_roundw
   case rel => exact ⟨i + 1, by go_num, hlt, by rw [HSN.out]; simp, trivial⟩
   case measure => simp [intOf]; omega
  ·obtain rfl : nl = i := by omega
   rw [List.take_of_length_le (by have := HNLL.out; omega)] at *
   by_cases hbig : 16777216 < sumL L
   ·obtain ⟨u, hu⟩ : ∃ u, u = sumL L := ⟨_, rfl⟩
    rw [← hu] at hbig hsb ⊢
    have HU := Hi hu
    have HBIG := Hi hbig
    clear hu
    have hbr := HQ10.out.md.at HBR.out id
    have z0 := cell_at (j := 0) hbr rfl; have y0 := frozen_at (j := 0) hbr; have z1 := cell_at (j := 1) hbr rfl; have y1 := frozen_at (j := 1) hbr; have z2 := cell_at (j := 2) hbr rfl; have y2 := frozen_at (j := 2) hbr; have z3 := cell_at (j := 3) hbr rfl; have y3 := frozen_at (j := 3) hbr; have z4 := cell_at (j := 4) hbr rfl; have y4 := frozen_at (j := 4) hbr; have z5 := cell_at (j := 5) hbr rfl; have y5 := frozen_at (j := 5) hbr
    go_wp2_with fail
    have hm := (((((((Mod.refl (fun b => b = B + 1) w10)).setCell (p := ⟨B + 1, 0, none⟩) (fun _ => rfl) (.string ⟨#[]⟩)).setCell (p := ⟨B + 1, 1, none⟩) (fun _ => rfl) (.int .i64 0)).setCell (p := ⟨B + 1, 2, none⟩) (fun _ => rfl) (.int .i64 0)).setCell (p := ⟨B + 1, 3, none⟩) (fun _ => rfl) (.int .i64 0)).setCell (p := ⟨B + 1, 4, none⟩) (fun _ => rfl) (.int .i64 0)).setCell (p := ⟨B + 1, 5, none⟩) (fun _ => rfl) (.slice none 0 0)
    have hz : (((((((w10).setCell ⟨B + 1, 0, none⟩ (.string ⟨#[]⟩)).setCell ⟨B + 1, 1, none⟩ (.int .i64 0)).setCell ⟨B + 1, 2, none⟩ (.int .i64 0)).setCell ⟨B + 1, 3, none⟩ (.int .i64 0)).setCell ⟨B + 1, 4, none⟩ (.int .i64 0)).setCell ⟨B + 1, 5, none⟩ (.slice none 0 0)).heap[B + 1]? = some (.cells #[.string ⟨#[]⟩, .int .i64 0, .int .i64 0, .int .i64 0, .int .i64 0, .slice none 0 0] 120 (0, 0)) := (heap_setCell_at (j := 5) (.slice none 0 0) (heap_setCell_at (j := 4) (.int .i64 0) (heap_setCell_at (j := 3) (.int .i64 0) (heap_setCell_at (j := 2) (.int .i64 0) (heap_setCell_at (j := 1) (.int .i64 0) (heap_setCell_at (j := 0) (.string ⟨#[]⟩) hbr))))))
    generalize ((((((w10).setCell ⟨B + 1, 0, none⟩ (.string ⟨#[]⟩)).setCell ⟨B + 1, 1, none⟩ (.int .i64 0)).setCell ⟨B + 1, 2, none⟩ (.int .i64 0)).setCell ⟨B + 1, 3, none⟩ (.int .i64 0)).setCell ⟨B + 1, 4, none⟩ (.int .i64 0)).setCell ⟨B + 1, 5, none⟩ (.slice none 0 0) = wz at *
    have hmz : Mod (fun _ => False) w wz := (HMW.out.step HQ10.out.md fun _ _ e => e).step hm fun b hb e => by have h1 := HB.out; omega
    clear z0 y0 z1 y1 z2 y2 z3 y3 z4 y4 z5 y5
    have q0 := cell_at (j := 0) hz rfl; have q1 := cell_at (j := 1) hz rfl; have q2 := cell_at (j := 2) hz rfl; have q3 := cell_at (j := 3) hz rfl; have q4 := cell_at (j := 4) hz rfl; have q5 := cell_at (j := 5) hz rfl
    have hlast : LaidP nm A rows w (.returned (.tuple #[.slice none 0 0, .agg #[.string ⟨#[]⟩, .int .i64 0, .int .i64 0, .int .i64 0, .int .i64 0, .slice none 0 0], .int .i64 3])) wz := ⟨.inl ⟨.inl (by rw [← HREQ.out, ← HLEQ.out, ← HU.out]; exact HBIG.out), rfl⟩, hmz⟩
    refine bodyPost_ret (v := .tuple #[.slice none 0 0, .agg #[.string ⟨#[]⟩, .int .i64 0, .int .i64 0, .int .i64 0, .int .i64 0, .slice none 0 0], .int .i64 3]) ?_ rfl hlast
    clear hlast
    simp [results, Tryz.results97, go_sem, q0, q1, q2, q3, q4, q5]
   ·obtain ⟨u, hu⟩ : ∃ u, u = sumL L := ⟨_, rfl⟩
    rw [← hu] at hbig hsb ⊢
    have HU := Hi hu
    clear hu
    have HPG := Hi (refPage_any la L lc w10 (HL4.out.mod HQ10.out.md fun _ _ => id) (by rw [← HNLL.out]; exact hnL) (fun s hs => by have := HSZ.out s hs; omega))
    rw [HPE.out, ← HNLL.out] at HPG
    obtain ⟨pl, hpl⟩ : ∃ pl, pl = (pgBytes L).length := ⟨_, rfl⟩
    have HPL := Hi hpl
    have hpb : pl ≤ 2 ^ 36 := by
     have h1 := pgBody_len HSZ.out
     have h2 := lebl_len64 L.length (by have := HNLL.out; omega)
     have h3 := HNLL.out
     rw [hpl]; unfold pgBytes; rw [List.length_append]; omega
    have HPG2 : Hid (Calls Tryz.prog 116 #[.slice la nl lc] w10 fun e w' => ∃ pa pc, e = .returned (.tuple #[.slice pa pl pc, .int .i64 0]) ∧ Rd w' pa (bts (pgBytes L)) ∧ Mod (fun _ => False) w10 w') := Hi (HPG.out.mono fun e w' hh => by
     obtain ⟨v, h1, h2⟩ := hh
     obtain ⟨pa, pc, h3, h4⟩ := h2.val
     rw [HPE.out, if_pos rfl] at h3 h4
     refine ⟨pa, pc, ?_, h4, h2.mod⟩
     rw [h1, h3, ← hpl]; rfl)
    clear hpl HPG hsb
    go_wp2_with fail
    refine HPG2.out.mono ?_
    rintro e w11 ⟨pga, pgc, rfl, hpr, hm11⟩
    have HQ11 := Hi (HQ10.out.mod0 hm11)
    have HPR := Hi hpr
    have s4 : w11.cell? ⟨S, 4, none⟩ = some (.int .i64 0) := cell_at (HQ11.out.get (k := 0) (by simp)) rfl
    have f4 : w11.frozen? ⟨S, 4, none⟩ = false := frozen_at (HQ11.out.get (k := 0) (by simp))
    clear hpr HPG2
    have HQ12 : Hid (RS w4 (w11.setCell ⟨S, 4, none⟩ (.int .i64 pl)) [boxI S #[.string nm, .int .i64 A, .int .i64 nr, .int .i64 nl, .int .i64 pl, .slice none 0 0] 120, ownI 5 1 a10 t10 c10 (bts bs10)]) := Hi (HQ11.out.cell (k := 0) (by simp) rfl 4 _)
    have HPR2 : Hid (Rd (w11.setCell ⟨S, 4, none⟩ (.int .i64 pl)) pga (bts (pgBytes L))) := Hi (by
     have hbs : w11.heap[S]? = some (.cells #[.string nm, .int .i64 A, .int .i64 nr, .int .i64 nl, .int .i64 0, .slice none 0 0] 120 (0, 0)) := HQ11.out.get (k := 0) (by simp)
     have hns := not_same hbs (fun o x => by
      match o with
      | 0 => simp
      | 1 => simp
      | 2 => simp
      | 3 => simp
      | 4 => simp
      | 5 => simp
      | o + 6 => simp) HPR.out (by unfold pgBytes; exact lebl_ne _ _)
     exact HPR.out.mod ((Mod.refl (fun b => b = S) w11).setCell (p := ⟨S, 4, none⟩) (fun _ => rfl) (.int .i64 pl)) (fun b hb e => hns (by rw [hb]; exact congrArg some e)))
    have HOB : Hid (Mine.Own (w11.setCell ⟨S, 4, none⟩ (.int .i64 pl)) 5 1 a10 t10 c10 (bts bs10)) := Hi (HQ12.out.get (k := 1) (by simp))
    clear HPR
    go_upto_region 20 with (at_builtin; refine wpL_append rfl (.tmp 80) (.tmp 81) 23 23 rfl ti24 rfl HOB.out rfl (Src.ofRd ti24.ht _ _ HPR2.out (by rw [bts_length, ← HPL.out, Nat.mul_one]) (bts_one _)) (by omega) (by unfold maxLen; omega) ?_; intro a13 c13 w13 hO3 hG3 _
                            have HQ13 : Hid (RS w4 w13 [boxI S #[.string nm, .int .i64 A, .int .i64 nr, .int .i64 nl, .int .i64 pl, .slice none 0 0] 120, ownI 5 1 a13 (t10 + pl) c13 (bts (bs10 ++ pgBytes L))]) := Hi (HQ12.out.grow (k := 1) (by simp) rfl hG3 (by rw [bts_append]; exact hO3))
                            clear hO3 hG3 HOB HPR2 HQ12)
    have HQ14 := Hi (HQ13.out.push (i' := ownI 3 1 none 0 0 (ns [])) (Mod.refl _ _) (Mine.Own.nil _ _ _) (fun b hb => by simp [ownI] at hb))
    clear HQ13 s4 f4
    obtain ⟨bs13, hbs⟩ : ∃ bs, bs = bs10 ++ pgBytes L := ⟨_, rfl⟩
    obtain ⟨t13, ht⟩ : ∃ t, t = t10 + pl := ⟨_, rfl⟩
    rw [← hbs, ← ht] at HQ14
    rw [← ht]
    have HB13 := Hi hbs
    have hb13 : t13 ≤ 2 ^ 37 := by omega
    clear hbs ht hpb
    go_wp2_with fail
    go_loopw [9, 14, 15, 16, 17, 18] (fun bv kv _ _ _ _ wr => ∃ (k t : Nat) (ab : Option Addr) (cb : Nat) (bs : List UInt8) (pa : Option Addr) (pc : Nat) (ps : List Nat), bv = .slice ab t cb ∧ kv = .int .i64 k ∧ k ≤ A ∧ t ≤ 2 ^ 37 + k * 2100000 ∧ Hid (bs = bs13 ++ ((colsL A R).take k).flatMap pageL) ∧ Hid (ps = ((colsL A R).take k).map fun c => (encL c).length) ∧
     Hid (RS w4 wr [boxI S #[.string nm, .int .i64 A, .int .i64 nr, .int .i64 nl, .int .i64 pl, .slice pa k pc] 120, ownI 5 1 ab t cb (bts bs), ownI 3 1 pa k pc (ns ps)])) (fun _ kv _ _ _ _ _ => A - (intOf kv).toNat)
    case atStart => exact ⟨0, t13, a13, c13, bs13, none, 0, [], rfl, rfl, Nat.zero_le _, by omega, Hi (by simp), Hi (by simp), HQ14⟩
    case round =>
     obtain ⟨k, t, ab, cb, bs, pa, pc, ps, rfl, rfl, hk, htb, hBS, hPS, hQ⟩ := hrel
     have x1 : wr.cell? ⟨B, 1, none⟩ = some (.int .i64 A) := cell_at (hQ.out.md.at HBX.out id) rfl
     by_cases hlk : k < A
     ·rename World => wq
      have hkL : k < (colsL A R).length := by unfold colsL; rw [List.length_map, List.length_range]; exact hlk
      obtain ⟨CK, hCK⟩ : ∃ CK, CK = R.map fun row => plcL L (row.getD k ByteArray.empty) := ⟨_, rfl⟩
      have hCK2 : (colsL A R)[k] = CK := by rw [hCK, HLEQ.out]; simp [colsL]
      have hckl : CK.length = nr := by rw [hCK, List.length_map, HNR.out]
      have hcku : U32 CK := fun x hx => by
       rw [hCK] at hx
       obtain ⟨row, _, rfl⟩ := List.mem_map.1 hx
       have h1 : plcL L (row.getD k ByteArray.empty) ≤ L.length := List.findIdx_le_length
       have h2 := HNLL.out
       omega
      have HTK : Hid (((colsL A R).take (k + 1)).flatMap pageL = ((colsL A R).take k).flatMap pageL ++ (lebl (encL CK).length ++ encL CK)) := Hi (by
       rw [List.take_succ_eq_append_getElem hkL, List.flatMap_append, hCK2]; simp [pageL])
      have HTP : Hid (((colsL A R).take (k + 1)).map (fun c => (encL c).length) = ((colsL A R).take k).map (fun c => (encL c).length) ++ [(encL CK).length]) := Hi (by
       rw [List.take_succ_eq_append_getElem hkL, List.map_append, hCK2]; rfl)
      have helen : (encL CK).length ≤ 2000001 := by
       have h1 := layW_len hcku (by omega) (wayN CK)
       unfold encL; rw [List.length_cons]; omega
      have HCK := Hi hCK; have HCL := Hi hckl; have HCU := Hi hcku
      clear hCK hCK2 hckl hcku hkL
      go_wp2_with fail
      go_loopw [15, 16] (fun lv iv wr => ∃ (i : Nat) (aa : Option Addr) (ac : Nat), lv = .slice aa i ac ∧ iv = .int .i64 i ∧ i ≤ nr ∧ Hid (Mine.Own wr 58 1 aa i ac (u32s (CK.take i))) ∧ Hid (∀ b, blk aa = some b → wq.heap.size ≤ b) ∧ Hid (Mod (fun _ => False) wq wr)) (fun _ iv _ => nr - (intOf iv).toNat)
      case atStart => exact ⟨0, none, 0, rfl, rfl, Nat.zero_le _, Hi (by rw [List.take_zero]; exact Mine.Own.nil _ _ _), Hi (fun b hb => by simp at hb), Hi (Mod.refl _ _)⟩
      case round =>
       obtain ⟨i, aa, ac, rfl, rfl, hi, hO, hF, hM⟩ := hrel
       by_cases hli : i < nr
       ·have hiR : i < R.length := by have := HNR.out; omega
        obtain ⟨b1, o1, x, xc, rfl, x0', hxr⟩ := row_get HR4.out HRL.out hiR
        have hlr : (R[i]).length = A := HRL.out _ (List.getElem_mem hiR)
        have hkr : k < (R[i]).length := by rw [hlr]; exact hlk
        obtain ⟨b2, o2, rfl, y0'⟩ := str_cell hxr hkr
        have mq := hQ.out.md.step hM.out fun _ _ e => e
        have x0 := mq.cell x0' id
        have y0 := mq.cell y0' id
        have hmem : (R[i])[k] ∈ L := (HUP.out.2.1 _).2 (List.mem_flatten.2 ⟨_, List.getElem_mem hiR, List.getElem_mem hkr⟩)
        obtain ⟨hp1, hp2⟩ := get_plc hmem
        have hpg : L[plcL L (R[i])[k]]? = some (R[i])[k] := by rw [List.getElem?_eq_getElem hp1, hp2]
        have HPP := Hi (place_any la lc L (R[i])[k] (plcL L (R[i])[k]) wr (HL4.out.mod mq fun _ _ => id) HUP.out.1 (by have := HNLL.out; omega) hpg)
        rw [← HNLL.out] at HPP hp1
        have hci : i < CK.length := by rw [HCL.out]; exact hli
        have hcv : CK.take (i + 1) = CK.take i ++ [plcL L (R[i])[k]] := by
         rw [List.take_succ_eq_append_getElem hci]
         congr 2
         simp only [HCK.out, List.getElem_map]
         rw [getD_ok hkr]
        have HCV := Hi hcv
        have hx32 : plcL L (R[i])[k] < 2 ^ 32 := by omega
        clear hcv hci hpg hp2 hp1 hmem x0' y0' hxr hlr
        generalize plcL L (R[i])[k] = u9 at *
        generalize (R[i])[k] = s at *
        clear hkr hiR
        have HO := Hi hO.out
        have HMQ := Hi mq
        clear mq
        go_wp2_with (first
         |(go_at_call 117; refine HPP.out.mono ?_; rintro e w' ⟨rfl, rfl⟩)
         |(at_builtin; refine wpL_appendN (us := [.int .u32 (u9 : Nat)]) rfl (.tmp 95) (.tmp 106) 162 rfl tiU32 rfl HO.out rfl rfl rfl (by show (i + 1) * 4 ≤ _; omega) (by show i + 1 ≤ _; unfold maxLen; omega) ?_; intro a5 c5 w5 hO5 hG5 _
           have HO5 := Hi hO5; have HG5 := Hi hG5; clear hO5 hG5))
        go_roundw
        case rel =>
         refine ⟨i + 1, a5, c5, rfl, by go_num, hli, Hi (by rw [HCV.out, u32s_snoc]; exact HO5.out), Hi (fun b hb => ?_), Hi (hM.out.step HG5.out.mod (fun b hb e => by have h1 := hF.out b e; omega))⟩
         rcases HG5.out.pos with e | ⟨g, e, hg⟩
         ·rw [e] at hb; exact hF.out b hb
         ·rw [e] at hb; cases hb; have h1 := hM.out.size; omega
        case measure => simp [intOf]; omega
       ·obtain rfl : nr = i := by omega
        rw [List.take_of_length_le (by rw [HCL.out]; exact Nat.le_refl _)] at hO
        have HEN := Hi (encR_any aa ac CK wr hO.out.rd HCU.out (by rw [HCL.out]; exact hnr))
        rw [HCL.out] at HEN
        have HQr := Hi (hQ.out.mod0 hM.out)
        have HLT : Hid ((∀ b, blk pa = some b → b < wr.heap.size) ∧ S < wr.heap.size ∧ (∀ b, blk ab = some b → b < wr.heap.size)) := Hi ⟨(show Mine.Own wr 3 1 pa k pc (ns ps) from HQr.out.get (k := 2) (by simp)).lt, (Array.getElem?_eq_some_iff.1 (show wr.heap[S]? = some _ from HQr.out.get (k := 0) (by simp))).1, (show Mine.Own wr 5 1 ab t cb (bts bs) from HQr.out.get (k := 1) (by simp)).lt⟩
        obtain ⟨el, hel⟩ : ∃ el, el = (encL CK).length := ⟨_, rfl⟩
        rw [← hel] at helen HEN HTK HTP
        have HEL := Hi hel
        clear hel hO hM hF hQ x1
        go_wp2_with fail
        refine HEN.out.mono ?_
        rintro e w20 ⟨ea, ec, rfl, hbo⟩
        have HBO := Hi hbo
        have HQ20 := Hi (HQr.out.mod0 hbo.md)
        clear hbo HEN HQr
        have s5 : w20.cell? ⟨S, 5, none⟩ = some (.slice pa k pc) := cell_at (HQ20.out.get (k := 0) (by simp)) rfl
        have HOP : Hid (Mine.Own w20 3 1 pa k pc (ns ps)) := Hi (HQ20.out.get (k := 2) (by simp))
        go_upto_region 30 with (at_builtin; refine wpL_appendN (us := [.int .i64 (el : Nat)]) rfl (.tmp 114) (.tmp 117) 97 rfl tiI rfl HOP.out rfl rfl rfl (by show (k + 1) * 8 ≤ _; omega) (by show k + 1 ≤ _; unfold maxLen; omega) ?_; intro a21 c21 w21 hO3 hG3 _
                                have HQ21 : Hid (RS w4 w21 [boxI S #[.string nm, .int .i64 A, .int .i64 nr, .int .i64 nl, .int .i64 pl, .slice pa k pc] 120, ownI 5 1 ab t cb (bts bs), ownI 3 1 a21 (k + 1) c21 (ns (ps ++ [el]))]) := Hi (HQ20.out.grow (k := 2) (by simp) rfl hG3 (by rw [ns_snoc]; exact hO3))
                                have HER : Hid (Rd w21 ea (bts (encL CK))) := Hi (HBO.out.own.rd.mod hG3.mod fun b hb e => by have h1 := HLT.out.1 b e; have h2 := HBO.out.fr b hb; omega)
                                clear hO3 hG3 HOP s5
                                have s5 : w21.cell? ⟨S, 5, none⟩ = some (.slice pa k pc) := cell_at (HQ21.out.get (k := 0) (by simp)) rfl
                                have f5 : w21.frozen? ⟨S, 5, none⟩ = false := frozen_at (HQ21.out.get (k := 0) (by simp)))
        have HQ22 : Hid (RS w4 (w21.setCell ⟨S, 5, none⟩ (.slice a21 (k + 1) c21)) [boxI S #[.string nm, .int .i64 A, .int .i64 nr, .int .i64 nl, .int .i64 pl, .slice a21 (k + 1) c21] 120, ownI 5 1 ab t cb (bts bs), ownI 3 1 a21 (k + 1) c21 (ns (ps ++ [el]))]) := Hi (HQ21.out.cell (k := 0) (by simp) rfl 5 _)
        have HER2 : Hid (Rd (w21.setCell ⟨S, 5, none⟩ (.slice a21 (k + 1) c21)) ea (bts (encL CK))) := Hi (HER.out.mod ((Mod.refl (fun b => b = S) w21).setCell (p := ⟨S, 5, none⟩) (fun _ => rfl) _) fun b hb e => by have h1 := HLT.out.2.1; have h2 := HBO.out.fr b hb; have h3 : b = S := e; omega)
        clear HQ21 HER s5 f5
        generalize w21.setCell ⟨S, 5, none⟩ (.slice a21 (k + 1) c21) = w22 at *
        go_upto_region 31 with (first
         |(go_at_call 88; refine (put_any el _ (by omega)).mono ?_; rintro e w23 ⟨g2, c2, rfl, hO2, hg2, hM2⟩
           have HO2 := Hi hO2; have HQ23 := Hi (HQ22.out.mod0 hM2); have HER3 := Hi (HER2.out.mod hM2 fun _ _ => id); clear hO2 hM2 HQ22 HER2
           have hle9 := lebl_len64 el (by omega)
           have HOB : Hid (Mine.Own w23 5 1 ab t cb (bts bs)) := Hi (HQ23.out.get (k := 1) (by simp)))
         |(at_builtin; refine wpL_append rfl (.tmp 120) (.tmp 124) 23 23 rfl ti24 rfl HOB.out rfl (Src.ofRd ti24.ht _ _ HO2.out.rd (by simp) (bts_one _)) (by omega) (by unfold maxLen; omega) ?_; intro a24 c24 w24 hO3 hG3 _
           have HQ24 : Hid (RS w4 w24 [boxI S #[.string nm, .int .i64 A, .int .i64 nr, .int .i64 nl, .int .i64 pl, .slice a21 (k + 1) c21] 120, ownI 5 1 a24 (t + (lebl el).length) c24 (bts (bs ++ lebl el)), ownI 3 1 a21 (k + 1) c21 (ns (ps ++ [el]))]) := Hi (HQ23.out.grow (k := 1) (by simp) rfl hG3 (by rw [bts_append]; exact hO3))
           have HER4 : Hid (Rd w24 ea (bts (encL CK))) := Hi (HER3.out.mod hG3.mod fun b hb e => by have h1 := HLT.out.2.2 b e; have h2 := HBO.out.fr b hb; omega)
           clear hO3 hG3 HQ23 HOB HO2 HER3))
        have HOB : Hid (Mine.Own w24 5 1 a24 (t + (lebl el).length) c24 (bts (bs ++ lebl el))) := Hi (HQ24.out.get (k := 1) (by simp))
        go_wp2_with (at_builtin; refine wpL_append rfl (.tmp 126) (.tmp 127) 23 23 rfl ti24 rfl HOB.out rfl (Src.ofRd ti24.ht _ _ HER4.out (by rw [bts_length, ← HEL.out, Nat.mul_one]) (bts_one _)) (by omega) (by unfold maxLen; omega) ?_; intro a25 c25 w25 hO3 hG3 _
                     have HQ25 : Hid (RS w4 w25 [boxI S #[.string nm, .int .i64 A, .int .i64 nr, .int .i64 nl, .int .i64 pl, .slice a21 (k + 1) c21] 120, ownI 5 1 a25 (t + (lebl el).length + el) c25 (bts (bs ++ lebl el ++ encL CK)), ownI 3 1 a21 (k + 1) c21 (ns (ps ++ [el]))]) := Hi (HQ24.out.grow (k := 1) (by simp) rfl hG3 (by rw [bts_append]; exact hO3))
                     clear hO3 hG3 HOB HER4 HQ24)
        go_roundw
        case rel => exact ⟨k + 1, t + (lebl el).length + el, a25, c25, bs ++ lebl el ++ encL CK, a21, c21, ps ++ [el], rfl, by go_num, hlk, by omega, Hi (by rw [HTK.out, hBS.out]; simp), Hi (by rw [HTP.out, hPS.out]), HQ25⟩
        case measure => simp [intOf]; omega
     ·obtain rfl : A = k := by omega
      have hct : (colsL A R).take A = colsL A R := List.take_of_length_le (by unfold colsL; rw [List.length_map, List.length_range]; exact Nat.le_refl _)
      rw [hct] at hBS hPS
      have HOW : Hid (Mine.Own wr 5 1 ab t cb (bts bs)) := Hi (hQ.out.get (k := 1) (by simp))
      have hbt : bs.length = t := by have h1 := HOW.out.1; rw [bts_length, Nat.mul_one] at h1; exact h1
      have HBODY : Hid (bs = bodyL nm.data.toList A rows) := Hi (by
       rw [HBD.out, hBS.out, HB13.out, HB10.out, HB8.out, HB6.out]
       unfold formL
       rw [← HNR.out, ← Lib.size_eq nm]
       simp only [List.nil_append, List.append_assoc])
      have HBL : Hid ((bodyL nm.data.toList A rows).length = t) := Hi (by rw [← HBODY.out]; exact hbt)
      clear hbt hct
      go_upto_region 33 with fail
      obtain ⟨sz, hsz⟩ : ∃ sz, sz = t + 14 := ⟨_, rfl⟩
      have hz : 10 + (t : Int) + 4 = (sz : Int) := by omega
      rw [hz]
      have HSZ2 := Hi hsz
      have hszb : sz ≤ 2 ^ 40 := by omega
      clear hz hsz
      by_cases hbig2 : 16777216 < sz
      ·have HBIG : Hid (16777216 < 14 + t) := Hi (by have := HSZ2.out; omega)
       have hbr := hQ.out.md.at HBR.out id
       have z0 := cell_at (j := 0) hbr rfl; have y0 := frozen_at (j := 0) hbr; have z1 := cell_at (j := 1) hbr rfl; have y1 := frozen_at (j := 1) hbr; have z2 := cell_at (j := 2) hbr rfl; have y2 := frozen_at (j := 2) hbr; have z3 := cell_at (j := 3) hbr rfl; have y3 := frozen_at (j := 3) hbr; have z4 := cell_at (j := 4) hbr rfl; have y4 := frozen_at (j := 4) hbr; have z5 := cell_at (j := 5) hbr rfl; have y5 := frozen_at (j := 5) hbr
       go_wp2_with fail
       have hm := (((((((Mod.refl (fun b => b = B + 1) wr)).setCell (p := ⟨B + 1, 0, none⟩) (fun _ => rfl) (.string ⟨#[]⟩)).setCell (p := ⟨B + 1, 1, none⟩) (fun _ => rfl) (.int .i64 0)).setCell (p := ⟨B + 1, 2, none⟩) (fun _ => rfl) (.int .i64 0)).setCell (p := ⟨B + 1, 3, none⟩) (fun _ => rfl) (.int .i64 0)).setCell (p := ⟨B + 1, 4, none⟩) (fun _ => rfl) (.int .i64 0)).setCell (p := ⟨B + 1, 5, none⟩) (fun _ => rfl) (.slice none 0 0)
       have hz : (((((((wr).setCell ⟨B + 1, 0, none⟩ (.string ⟨#[]⟩)).setCell ⟨B + 1, 1, none⟩ (.int .i64 0)).setCell ⟨B + 1, 2, none⟩ (.int .i64 0)).setCell ⟨B + 1, 3, none⟩ (.int .i64 0)).setCell ⟨B + 1, 4, none⟩ (.int .i64 0)).setCell ⟨B + 1, 5, none⟩ (.slice none 0 0)).heap[B + 1]? = some (.cells #[.string ⟨#[]⟩, .int .i64 0, .int .i64 0, .int .i64 0, .int .i64 0, .slice none 0 0] 120 (0, 0)) := (heap_setCell_at (j := 5) (.slice none 0 0) (heap_setCell_at (j := 4) (.int .i64 0) (heap_setCell_at (j := 3) (.int .i64 0) (heap_setCell_at (j := 2) (.int .i64 0) (heap_setCell_at (j := 1) (.int .i64 0) (heap_setCell_at (j := 0) (.string ⟨#[]⟩) hbr))))))
       generalize ((((((wr).setCell ⟨B + 1, 0, none⟩ (.string ⟨#[]⟩)).setCell ⟨B + 1, 1, none⟩ (.int .i64 0)).setCell ⟨B + 1, 2, none⟩ (.int .i64 0)).setCell ⟨B + 1, 3, none⟩ (.int .i64 0)).setCell ⟨B + 1, 4, none⟩ (.int .i64 0)).setCell ⟨B + 1, 5, none⟩ (.slice none 0 0) = wz at *
       have hmz : Mod (fun _ => False) w wz := (HMW.out.step hQ.out.md fun _ _ e => e).step hm fun b hb e => by have h1 := HB.out; omega
       clear z0 y0 z1 y1 z2 y2 z3 y3 z4 y4 z5 y5
       have q0 := cell_at (j := 0) hz rfl; have q1 := cell_at (j := 1) hz rfl; have q2 := cell_at (j := 2) hz rfl; have q3 := cell_at (j := 3) hz rfl; have q4 := cell_at (j := 4) hz rfl; have q5 := cell_at (j := 5) hz rfl
       have hlast : LaidP nm A rows w (.returned (.tuple #[.slice none 0 0, .agg #[.string ⟨#[]⟩, .int .i64 0, .int .i64 0, .int .i64 0, .int .i64 0, .slice none 0 0], .int .i64 3])) wz := ⟨.inl ⟨.inr (by rw [HBL.out]; exact HBIG.out), rfl⟩, hmz⟩
       refine bodyPost_ret (v := .tuple #[.slice none 0 0, .agg #[.string ⟨#[]⟩, .int .i64 0, .int .i64 0, .int .i64 0, .int .i64 0, .slice none 0 0], .int .i64 3]) ?_ rfl hlast
       clear hlast
       simp [results, Tryz.results97, go_sem, q0, q1, q2, q3, q4, q5]
      ·go_wp2_with fail
       have HOM : Hid (Mine.Own (wr.alloc (.cells #[.int .u8 115, .int .u8 105, .int .u8 98, .int .u8 121, .int .u8 108, .int .u8 1] 5)) 5 1 (some ⟨wr.heap.size, 0, none⟩) 6 6 (bts magicL)) := Hi (Mine.Own.made wr 5 1 #[.int .u8 115, .int .u8 105, .int .u8 98, .int .u8 121, .int .u8 108, .int .u8 1] 6 6 (Nat.le_refl _) (by unfold maxLen; omega) rfl)
       have HQ30 := Hi (hQ.out.push (i' := ownI 5 1 (some ⟨wr.heap.size, 0, none⟩) 6 6 (bts magicL)) ((Mod.refl _ wr).alloc (.cells #[.int .u8 115, .int .u8 105, .int .u8 98, .int .u8 121, .int .u8 108, .int .u8 1] 5)) HOM.out (fun b hb => Nat.le_of_eq (by simpa [ownI, blk] using hb)))
       have HLO := Hi (low_any (some ⟨wr.heap.size, 0, none⟩) 6 magicL sz _ HOM.out (by show 6 ≤ _; omega) (by omega))
       clear HOM
       refine HLO.out.mono ?_
       rintro e w31 ⟨a31, c31, rfl, hO31, hG31⟩
       have HQ31 := Hi (HQ30.out.grow (k := 3) (by simp) rfl hG31 hO31)
       obtain ⟨o31, ho31⟩ : ∃ o, o = magicL ++ fourL sz := ⟨_, rfl⟩
       have hn31 : o31.length = 10 := by rw [ho31]; rfl
       rw [← ho31] at HQ31 ⊢
       rw [hn31] at HQ31 ⊢
       have HO31 := Hi ho31
       have HN31 := Hi hn31
       clear hO31 hG31 ho31 hn31 HLO HQ30
       have HOO : Hid (Mine.Own w31 5 1 a31 10 c31 (bts o31)) := Hi (HQ31.out.get (k := 3) (by simp))
       have HBR31 : Hid (Rd w31 ab (bts bs)) := Hi (show Mine.Own w31 5 1 ab t cb (bts bs) from HQ31.out.get (k := 1) (by simp)).rd
       have HBT : Hid (bs.length = t) := Hi (by have h1 := HOW.out.1; rw [bts_length, Nat.mul_one] at h1; exact h1)
       go_upto_region 37 with (at_builtin; refine wpL_append rfl (.tmp 140) (.tmp 141) 23 23 rfl ti24 rfl HOO.out rfl (Src.ofRd ti24.ht _ _ HBR31.out (by rw [bts_length, HBT.out, Nat.mul_one]) (bts_one _)) (by omega) (by unfold maxLen; omega) ?_; intro a32 c32 w32 hO3 hG3 _
                               have HQ32 := Hi (HQ31.out.grow (k := 3) (by simp) rfl hG3 (show Mine.Own w32 5 1 a32 (10 + t) c32 (bts (o31 ++ bs)) by rw [bts_append]; exact hO3))
                               clear hO3 hG3 HOO HBR31 HQ31)
       obtain ⟨ob, hob⟩ : ∃ ob, ob = o31 ++ bs := ⟨_, rfl⟩
       have hobl : ob.length = 10 + t := by rw [hob, List.length_append, HN31.out, HBT.out]
       rw [← hob] at HQ32
       have HOBB := Hi hob
       have HOBL := Hi hobl
       clear hob hobl
       obtain ⟨tb, htb2⟩ : ∃ tb, tb = 10 + t := ⟨_, rfl⟩
       rw [← htb2] at HQ32 HOBL ⊢
       have htb3 : tb ≤ 16777216 := by have := HSZ2.out; omega
       have HTB := Hi htb2
       clear htb2
       have HSUM : Hid (∀ W, Mod (fun _ => False) w32 W → Calls Tryz.prog 57 #[.slice a32 tb c32] W fun e w' => e = .returned (.int .u32 (crcL ob : Nat)) ∧ W = w') := Hi (fun W mW => by
        have h1 := sumR_any a32 ob c32 W ((show Mine.Own w32 5 1 a32 tb c32 (bts ob) from HQ32.out.get (k := 3) (by simp)).rd.mod mW fun _ _ => id) (by rw [HOBL.out]; omega)
        rwa [HOBL.out] at h1)
       have hcrc : crcL ob < 2 ^ 32 := crcL_lt ob
       have HLOW : Hid (∀ W, Mod (fun _ => False) w32 W → Calls Tryz.prog 95 #[.slice a32 tb c32, .int .u32 (crcL ob : Nat)] W fun e w' => ∃ a' c', e = .returned (.slice a' (ob ++ fourL (crcL ob)).length c') ∧ Mine.Own w' 5 1 a' (ob ++ fourL (crcL ob)).length c' (bts (ob ++ fourL (crcL ob))) ∧ Grow W a32 w' a') := Hi (fun W mW => by
        have h2 : Mine.Own W 5 1 a32 tb c32 (bts ob) := (show Mine.Own w32 5 1 a32 tb c32 (bts ob) from HQ32.out.get (k := 3) (by simp)).mod mW fun _ _ => id
        have h1 := low_any a32 c32 ob (crcL ob) W (by rw [HOBL.out]; exact h2) (by rw [HOBL.out]; omega) hcrc
        rwa [HOBL.out] at h1)
       have HFE : Hid (fileL (bodyL nm.data.toList A rows) = ob ++ fourL (crcL ob)) := Hi (by
        have e : headB (bodyL nm.data.toList A rows) = ob := by
         unfold headB
         rw [HBL.out, HOBB.out, HO31.out, HSZ2.out, ← HBODY.out, Nat.add_comm 14 t]
        unfold fileL
        rw [e])
       generalize crcL ob = cr at *
       have s0 := cell_at (j := 0) (show w32.heap[S]? = some _ from HQ32.out.get (k := 0) (by simp)) rfl; have s1 := cell_at (j := 1) (show w32.heap[S]? = some _ from HQ32.out.get (k := 0) (by simp)) rfl; have s2 := cell_at (j := 2) (show w32.heap[S]? = some _ from HQ32.out.get (k := 0) (by simp)) rfl; have s3 := cell_at (j := 3) (show w32.heap[S]? = some _ from HQ32.out.get (k := 0) (by simp)) rfl; have s4 := cell_at (j := 4) (show w32.heap[S]? = some _ from HQ32.out.get (k := 0) (by simp)) rfl; have s5 := cell_at (j := 5) (show w32.heap[S]? = some _ from HQ32.out.get (k := 0) (by simp)) rfl
       refine wp_region_ord (fun w' => (w'.cell? ⟨S, 0, none⟩ = some (.string nm) ∧ w'.cell? ⟨S, 1, none⟩ = some (.int .i64 A) ∧ w'.cell? ⟨S, 2, none⟩ = some (.int .i64 nr)) ∧ w'.cell? ⟨S, 3, none⟩ = some (.int .i64 nl) ∧ w'.cell? ⟨S, 4, none⟩ = some (.int .i64 pl) ∧ w'.cell? ⟨S, 5, none⟩ = some (.slice pa A pc)) [(0, 0), (0, 1), (1, 4), (2, 2), (2, 3), (0, 5), (3, 6), (0, 7)] (by kernel_rfl) (by kernel_rfl) ?_
       go_wp2_with (first
        |(refine ord_pure rfl rfl rfl (fun K hK => ?_); go_big_quiet_op; refine hK _ ?_; clear hK K)
        |(refine ord_held rfl rfl rfl (⟨⟨s0, s1, s2⟩, s3, s4, s5⟩) (fun K hK => ?_); apply Exists.intro; refine ⟨fun w' hs => ?_, hK _ ?_⟩; (revert hs; dsimp only; (try simp only [and_imp]); intros; go_simp; rfl); clear hK K)
        |(refine ord_keep rfl rfl (⟨⟨s0, s1, s2⟩, s3, s4, s5⟩) (fun K hK => ?_))
        |(refine ord_drop rfl rfl (fun K hK => ?_))
        |(refine ord_nil ?_))
       have md := (Mod.refl (fun _ => False) w32).drew
       have e0 := md.cell s0 id; have e1 := md.cell s1 id; have e2 := md.cell s2 id; have e3 := md.cell s3 id; have e4 := md.cell s4 id; have e5 := md.cell s5 id
       have HQ33 := Hi (HQ32.out.mod0 md)
       have HLOW2 := Hi (HLOW.out _ md)
       clear s0 s1 s2 s3 s4 s5 HLOW
       refine (HSUM.out _ md).mono ?_
       clear md HSUM
       generalize w32.drew = w33 at *
       rintro e w9 ⟨rfl, hw9⟩
       obtain rfl : w33 = w9 := hw9
       refine hK _ _ ⟨⟨e0, e1, e2⟩, e3, e4, e5⟩ ?_
       clear hK K
       go_wp2_with (first
        |(refine ord_pure rfl rfl rfl (fun K hK => ?_); go_big_quiet_op; refine hK _ ?_; clear hK K)
        |(refine ord_held rfl rfl rfl (⟨⟨e0, e1, e2⟩, e3, e4, e5⟩) (fun K hK => ?_); apply Exists.intro; refine ⟨fun w' hs => ?_, hK _ ?_⟩; (revert hs; dsimp only; (try simp only [and_imp]); intros; go_simp; rfl); clear hK K)
        |(refine ord_keep rfl rfl (⟨⟨e0, e1, e2⟩, e3, e4, e5⟩) (fun K hK => ?_))
        |(refine ord_drop rfl rfl (fun K hK => ?_))
        |(refine ord_nil ?_))
       refine HLOW2.out.mono ?_
       clear e0 e1 e2 e3 e4 e5 HLOW2
       rintro e w34 ⟨af, cf, rfl, hO34, hG34⟩
       rw [← HFE.out] at hO34 ⊢
       have HQ34 := Hi (HQ33.out.grow (k := 3) (by simp) rfl hG34 hO34)
       have HRF := Hi hO34.rd
       have HFF : Hid (∀ b, blk af = some b → w4.heap.size ≤ b) := Hi (fun b hb => HQ34.out.fam.lo _ (List.getElem_mem (n := 3) (by simp)) b hb)
       have HPSR : Hid (Rd w34 pa (ns ps)) := Hi (show Mine.Own w34 3 1 pa A pc (ns ps) from HQ34.out.get (k := 2) (by simp)).rd
       have HPF : Hid (∀ b, blk pa = some b → w4.heap.size ≤ b) := Hi (fun b hb => HQ34.out.fam.lo _ (List.getElem_mem (n := 2) (by simp)) b hb)
       have HBS : Hid (B + 1 < w4.heap.size) := Hi (Array.getElem?_eq_some_iff.1 HBR.out).1
       clear hO34 hG34 HQ33 HQ32
       have s0 := cell_at (j := 0) (show w34.heap[S]? = some _ from HQ34.out.get (k := 0) (by simp)) rfl; have s1 := cell_at (j := 1) (show w34.heap[S]? = some _ from HQ34.out.get (k := 0) (by simp)) rfl; have s2 := cell_at (j := 2) (show w34.heap[S]? = some _ from HQ34.out.get (k := 0) (by simp)) rfl; have s3 := cell_at (j := 3) (show w34.heap[S]? = some _ from HQ34.out.get (k := 0) (by simp)) rfl; have s4 := cell_at (j := 4) (show w34.heap[S]? = some _ from HQ34.out.get (k := 0) (by simp)) rfl; have s5 := cell_at (j := 5) (show w34.heap[S]? = some _ from HQ34.out.get (k := 0) (by simp)) rfl
       refine hK _ _ ⟨⟨s0, s1, s2⟩, s3, s4, s5⟩ ?_
       clear hK K
       have hbr := HQ34.out.md.at HBR.out id
       have z0 := cell_at (j := 0) hbr rfl; have y0 := frozen_at (j := 0) hbr; have z1 := cell_at (j := 1) hbr rfl; have y1 := frozen_at (j := 1) hbr; have z2 := cell_at (j := 2) hbr rfl; have y2 := frozen_at (j := 2) hbr; have z3 := cell_at (j := 3) hbr rfl; have y3 := frozen_at (j := 3) hbr; have z4 := cell_at (j := 4) hbr rfl; have y4 := frozen_at (j := 4) hbr; have z5 := cell_at (j := 5) hbr rfl; have y5 := frozen_at (j := 5) hbr
       go_wp2_with (first
        |(refine ord_pure rfl rfl rfl (fun K hK => ?_); go_big_quiet_op; refine hK _ ?_; clear hK K)
        |(refine ord_held rfl rfl rfl (⟨⟨s0, s1, s2⟩, s3, s4, s5⟩) (fun K hK => ?_); apply Exists.intro; refine ⟨fun w' hs => ?_, hK _ ?_⟩; (revert hs; dsimp only; (try simp only [and_imp]); intros; go_simp; rfl); clear hK K)
        |(refine ord_keep rfl rfl (⟨⟨s0, s1, s2⟩, s3, s4, s5⟩) (fun K hK => ?_))
        |(refine ord_drop rfl rfl (fun K hK => ?_))
        |(refine ord_nil ?_))
       clear s0 s1 s2 s3 s4 s5
       have hm := (((((((Mod.refl (fun b => b = B + 1) w34)).setCell (p := ⟨B + 1, 0, none⟩) (fun _ => rfl) (.string nm)).setCell (p := ⟨B + 1, 1, none⟩) (fun _ => rfl) (.int .i64 A)).setCell (p := ⟨B + 1, 2, none⟩) (fun _ => rfl) (.int .i64 nr)).setCell (p := ⟨B + 1, 3, none⟩) (fun _ => rfl) (.int .i64 nl)).setCell (p := ⟨B + 1, 4, none⟩) (fun _ => rfl) (.int .i64 pl)).setCell (p := ⟨B + 1, 5, none⟩) (fun _ => rfl) (.slice pa A pc)
       have hz : (((((((w34).setCell ⟨B + 1, 0, none⟩ (.string nm)).setCell ⟨B + 1, 1, none⟩ (.int .i64 A)).setCell ⟨B + 1, 2, none⟩ (.int .i64 nr)).setCell ⟨B + 1, 3, none⟩ (.int .i64 nl)).setCell ⟨B + 1, 4, none⟩ (.int .i64 pl)).setCell ⟨B + 1, 5, none⟩ (.slice pa A pc)).heap[B + 1]? = some (.cells #[.string nm, .int .i64 A, .int .i64 nr, .int .i64 nl, .int .i64 pl, .slice pa A pc] 120 (0, 0)) := (heap_setCell_at (j := 5) (.slice pa A pc) (heap_setCell_at (j := 4) (.int .i64 pl) (heap_setCell_at (j := 3) (.int .i64 nl) (heap_setCell_at (j := 2) (.int .i64 nr) (heap_setCell_at (j := 1) (.int .i64 A) (heap_setCell_at (j := 0) (.string nm) hbr))))))
       generalize ((((((w34).setCell ⟨B + 1, 0, none⟩ (.string nm)).setCell ⟨B + 1, 1, none⟩ (.int .i64 A)).setCell ⟨B + 1, 2, none⟩ (.int .i64 nr)).setCell ⟨B + 1, 3, none⟩ (.int .i64 nl)).setCell ⟨B + 1, 4, none⟩ (.int .i64 pl)).setCell ⟨B + 1, 5, none⟩ (.slice pa A pc) = wz at *
       have hmz : Mod (fun _ => False) w wz := (HMW.out.step HQ34.out.md fun _ _ e => e).step hm fun b hb e => by have h1 := HB.out; omega
       clear z0 y0 z1 y1 z2 y2 z3 y3 z4 y4 z5 y5
       have q0 := cell_at (j := 0) hz rfl; have q1 := cell_at (j := 1) hz rfl; have q2 := cell_at (j := 2) hz rfl; have q3 := cell_at (j := 3) hz rfl; have q4 := cell_at (j := 4) hz rfl; have q5 := cell_at (j := 5) hz rfl
       have hlast : LaidP nm A rows w (.returned (.tuple #[.slice af (fileL (bodyL nm.data.toList A rows)).length cf, .agg #[.string nm, .int .i64 A, .int .i64 nr, .int .i64 nl, .int .i64 pl, .slice pa A pc], .int .i64 0])) wz := ⟨.inr ⟨af, cf, pa, pc, by rw [HBL.out]; have := HSZ2.out; omega, by rw [← HREQ.out, ← HLEQ.out, ← HNR.out, ← HNLL.out, ← HPL.out], HRF.out.mod hm (fun b hb e => by have h1 := HFF.out b hb; have h2 := HBS.out; omega), by rw [← HREQ.out, ← hPS.out]; exact HPSR.out.mod hm (fun b hb e => by have h1 := HPF.out b hb; have h2 := HBS.out; omega), fun b hb => Nat.le_trans HMW.out.size (HPF.out b hb)⟩, hmz⟩
       refine bodyPost_ret (v := .tuple #[.slice af (fileL (bodyL nm.data.toList A rows)).length cf, .agg #[.string nm, .int .i64 A, .int .i64 nr, .int .i64 nl, .int .i64 pl, .slice pa A pc], .int .i64 0]) ?_ rfl hlast
       clear hlast
       simp [results, Tryz.results97, go_sem, q0, q1, q2, q3, q4, q5]
end Go.Proofs.YtjoiaejbahdjkaaGreat
