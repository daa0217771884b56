/-
  An archive's table; how many bytes it has.
-/
import Derived.Test.YtjoiaejbahdjkaaGreatAgA
import Derived.Test.YtjoiaejbahdjkaaGreatCqA
import Derived.Laws.IdiomRangeMap
import Derived.Test.YtjoiaejbahdjkaaGreatFgC
namespace Go.Proofs.YtjoiaejbahdjkaaGreat
open Go Go.RowKit Go.Mine Go.Maps
set_option linter.unusedVariables false
set_option maxHeartbeats 8000000
set_option maxRecDepth 100000
def arcOf (l : Ens) : Arc := l.map fun p => (p.1, p.2.f)
theorem arcOf_len (l : Ens) : (arcOf l).length = l.length := by simp [arcOf]
theorem MAt.up {w : World} {mb : Option Nat} {l : Ens} (h : MAt w mb l) : UpA l := by
 rcases h with ⟨_, rfl⟩ | ⟨B, _, h⟩
 ·exact List.Pairwise.nil
 ·exact h.1
theorem MAt.len {w : World} {mb : Option Nat} {l : Ens} (h : MAt w mb l) (ty : TypeId) : (Builtin.len_ #[44] ty #[.map mb]).run Tryz.prog w = .ok (.int .i64 l.length) w := by
 rcases h with ⟨rfl, rfl⟩ | ⟨B, rfl, h⟩
 ·exact Maps.len_nil (e := 23) (k := 9) (by kernel_rfl) ty
 ·exact h.len ty
theorem MAt.look {w : World} {mb : Option Nat} {l : Ens} (h : MAt w mb l) (x : ByteArray) (hx : x.size ≤ maxLen) : (Instr.lookup 44 (.map mb) (.string x) false).run Tryz.prog w = .ok (fval (getA l x)) w := by
 rcases h with ⟨rfl, rfl⟩ | ⟨B, rfl, h⟩
 ·exact Maps.look_nil (e := 23) false lawS (t := 44) (by kernel_rfl) (zeroH w) (WideMaps.keyOf_string_mk Tryz.underlying9 hx)
 ·exact h.look x hx
theorem MAt.look2 {w : World} {mb : Option Nat} {l : Ens} (h : MAt w mb l) (x : ByteArray) (hx : x.size ≤ maxLen) : (Instr.lookup 44 (.map mb) (.string x) true).run Tryz.prog w = .ok (.tuple #[fval (getA l x), .bool (getA l x).isSome]) w := by
 rcases h with ⟨rfl, rfl⟩ | ⟨B, rfl, h⟩
 ·exact Maps.look_nil (e := 23) true lawS (t := 44) (by kernel_rfl) (zeroH w) (WideMaps.keyOf_string_mk Tryz.underlying9 hx)
 ·exact h.look2 x hx
theorem textS_any {w0 w : World} {p : Nat} {l : List UInt8} (h : WrS w0 w p l) (s : ByteArray) (hs : s.size < 2 ^ 40) (hl : l.length < 2 ^ 39) :
 Calls Tryz.prog 84 #[.pointer (some ⟨p, 0, none⟩), .string s] w fun e w' => e = .returned (.tuple #[]) ∧ WrS w0 w' p (l ++ arText s) := by
 obtain ⟨a, h1, h2, h3, h4⟩ := h
 refine (text_any p a l s w h1 hs hl).mono ?_
 rintro e w' ⟨rfl, a', g1, g2⟩
 refine ⟨rfl, ?_⟩
 have e : l ++ arText s = l ++ lebl s.size ++ s.data.toList := by unfold arText tbs; rw [ByteArray.toList_eq, List.append_assoc]
 rw [e]
 exact WrS.go h2 h3 h4 g1 g2
def WrG (w0 w : World) (p : Nat) (a0 : Option Addr) (l : List UInt8) : Prop := ∃ a, WrAt w p a l ∧ WrGo w0 p a0 w a
theorem textG_any {w0 w : World} {p : Nat} {a0 : Option Addr} {l : List UInt8} (h : WrG w0 w p a0 l) (s : ByteArray) (hs : s.size < 2 ^ 40) (hl : l.length < 2 ^ 39) :
 Calls Tryz.prog 84 #[.pointer (some ⟨p, 0, none⟩), .string s] w fun e w' => e = .returned (.tuple #[]) ∧ WrG w0 w' p a0 (l ++ arText s) := by
 obtain ⟨a, h1, h2⟩ := h
 refine (text_any p a l s w h1 hs hl).mono ?_
 rintro e w' ⟨rfl, a', g1, g2⟩
 refine ⟨rfl, a', ?_, h2.trans g2⟩
 have e : l ++ arText s = l ++ lebl s.size ++ s.data.toList := by unfold arText tbs; rw [ByteArray.toList_eq, List.append_assoc]
 rw [e]
 exact g1
theorem numG_any {w0 w : World} {p : Nat} {a0 : Option Addr} {l : List UInt8} (h : WrG w0 w p a0 l) (ns : List Nat) (hns : ∀ n ∈ ns, n < 2 ^ 64) (cv : Nat) (hl : l.length + 10 * ns.length < 2 ^ 40) :
 Calls Tryz.prog 83 #[.pointer (some ⟨p, 0, none⟩), .slice (some ⟨w.heap.size, 0, none⟩) ns.length cv] (w.alloc (.cells (u64s ns).toArray 66)) fun e w' => e = .returned (.tuple #[]) ∧ WrG w0 w' p a0 (l ++ ns.flatMap lebl) := by
 obtain ⟨a, h1, h2⟩ := h
 have hlt : p < w.heap.size := (Array.getElem?_eq_some_iff.1 h1.2.choose_spec.1).1
 have hlta : ∀ b, blk a = some b → b < w.heap.size := h1.2.choose_spec.2.lt
 have m1 : Mine.Mod (fun _ => False) w (w.alloc (.cells (u64s ns).toArray 66)) := (Mod.refl _ w).alloc _
 refine (num_any p a l ns _ cv _ (h1.mod m1 id (fun _ _ => id)) (Rd.news w (u64s ns) 66) (fun e => by simp [blk] at e; omega) (fun b hb hh => by simp [blk] at hb; have := hlta b hh; omega) hns hl).mono ?_
 rintro e w' ⟨rfl, a', g1, g2⟩
 exact ⟨rfl, a', g1, h2.trans (WrGo.pre0 m1 g2)⟩
theorem tab_step (l : Arc) {k : Nat} (h : k < l.length) : lebl l.length ++ (l.take (k + 1)).flatMap arEnt = lebl l.length ++ (l.take k).flatMap arEnt ++ arText l[k].1 ++ lebl l[k].2.length := by
 rw [List.take_succ_eq_append_getElem h, List.flatMap_append]
 simp [arEnt]
theorem tab_le (l : Arc) (k : Nat) : (lebl l.length ++ (l.take k).flatMap arEnt).length ≤ (arTab l).length := by
 have e : (arTab l).length = (lebl l.length ++ (l.take k).flatMap arEnt).length + ((l.drop k).flatMap arEnt).length := by
  rw [← List.length_append]
  unfold arTab
  rw [List.append_assoc, ← List.flatMap_append, List.take_append_drop]
 omega
theorem table_any (p : Nat) (mb : Option Nat) (l : Ens) (w : World) (hp : w.heap[p]? = some (.cells #[.map mb] 46 (0, 0))) (h : MAt w mb l) (hl : (arTab (arcOf l)).length < 2 ^ 38) (hn : l.length < 2 ^ 38) (hx : ∀ q ∈ l, q.1.size ≤ 4096 ∧ q.2.f.length < 2 ^ 40) :
 Calls Tryz.prog 51 #[.pointer (some ⟨p, 0, none⟩)] w fun e w' => ∃ g c, e = .returned (.slice (some ⟨g, 0, none⟩) (arTab (arcOf l)).length c) ∧ Mine.Own w' 5 1 (some ⟨g, 0, none⟩) (arTab (arcOf l)).length c (bts (arTab (arcOf l))) ∧ w.heap.size ≤ g ∧ Mod (fun _ => False) w w' := by
 have HP := Hi hp
 have H := Hi h
 have HX := Hi hx
 have HL := Hi hl
 clear hp h hx hl
 go_enter Tryz.func51, Tryz.ntmps51
 go_wp2_with fail
 refine (newWriter_any w).mono ?_
 rintro e w1 ⟨rfl, hw1⟩
 have HW1 : Hid (WrS w w1 w.heap.size []) := Hi ⟨none, ⟨(fun h => by cases h), 0, by rw [hw1]; exact heap_alloc_new w _, Mine.Own.nil _ _ _⟩, Nat.le_refl _, (fun b hb => by cases hb), by rw [hw1]; exact (Mod.refl _ w).alloc _⟩
 clear hw1
 obtain ⟨q, hq⟩ : ∃ q, q = w.heap.size := ⟨_, rfl⟩
 rw [← hq] at HW1 ⊢
 clear hq
 have p0 : w1.cell? ⟨p, 0, none⟩ = some (.map mb) := cell_at (j := 0) (HW1.out.md.at HP.out id) rfl
 have hlen := (H.out.mod HW1.out.md fun _ _ => id).len
 have HN : Hid (Calls Tryz.prog 83 #[.pointer (some ⟨q, 0, none⟩), .slice (some ⟨w1.heap.size, 0, none⟩) 1 1] (w1.alloc (.cells #[.int .u64 l.length] 66)) fun e w' => e = .returned (.tuple #[]) ∧ WrS w w' q (lebl l.length)) := Hi (by
  have h := numS_any HW1.out [l.length] (by simp; omega) 1 (by simp)
  simpa [u64s] using h)
 have e1 : (l.length : Int) % 18446744073709551616 = l.length := by omega
 go_wp2_with fail
 refine HN.out.mono ?_
 rintro e w2 ⟨rfl, h2⟩
 have H2 := Hi h2
 clear h2 HN hlen p0
 go_wp2_with fail
 refine (names_any p mb l w2 (H2.out.md.at HP.out id) (H.out.mod H2.out.md fun _ _ => id) (by omega)).mono ?_
 rintro e w3 ⟨na, nc, rfl, hr, hxm, hfr, hm⟩
 have HR := Hi hr
 obtain ⟨a3, k10, k2, k3, k40⟩ := H2.out
 have hq2 : q < w2.heap.size := (Array.getElem?_eq_some_iff.1 k10.2.choose_spec.1).1
 have ha2 : ∀ b, blk a3 = some b → b < w2.heap.size := k10.2.choose_spec.2.lt
 have k1 := k10.mod hm id (fun _ _ => id)
 have k4 := k40.step hm fun _ _ e => e
 have HG3 : Hid (WrG w3 w3 q a3 (lebl l.length)) := Hi ⟨a3, k1, WrGo.refl _ _ _⟩
 have HA3 : Hid (∀ b, b = q ∨ blk a3 = some b → w.heap.size ≤ b) := Hi (fun b hb => by
  rcases hb with rfl | hb
  ·exact k2
  ·exact k3 b hb)
 have HM3 : Hid (Mod (fun _ => False) w w3) := Hi k4
 have HFR : Hid (∀ b, blk na = some b → ¬ (b = q ∨ blk a3 = some b)) := Hi (fun b hb e => by
  have h1 := hfr b hb
  rcases e with rfl | e
  ·omega
  ·have := ha2 b e; omega)
 clear hr hm hxm hfr k1 k2 k3 k4 k10 k40 hq2 ha2
 obtain ⟨n, hnn⟩ : ∃ n, n = l.length := ⟨_, rfl⟩
 have HNN := Hi hnn
 rw [← hnn] at hn e1 H2 HG3 ⊢
 clear hnn e1
 go_wp2_with fail
 go_loopw [19] (fun iv wr => ∃ k : Nat, iv = .int .i64 k ∧ k ≤ n ∧ Hid (WrG w3 wr q a3 (lebl n ++ ((arcOf l).take k).flatMap arEnt))) (fun iv _ => n - (intOf iv).toNat)
 case atStart => exact ⟨0, rfl, Nat.zero_le _, Hi (by simpa using HG3.out)⟩
 case round =>
  obtain ⟨k, rfl, hk, hW⟩ := hrel
  have HMW : Hid (Mod (fun b => b = q ∨ blk a3 = some b) w3 wr) := Hi hW.out.choose_spec.2.mod
  have HM0 : Hid (Mod (fun _ => False) w wr) := Hi (HM3.out.step HMW.out fun b hb e => by have := HA3.out b e; omega)
  by_cases hlt : k < n
  ·have hkl : k < l.length := by rw [← HNN.out]; exact hlt
   obtain ⟨x, hxe⟩ : ∃ x, x = l[k].1 := ⟨_, rfl⟩
   obtain ⟨m, hme⟩ : ∃ m, m = l[k].2.f.length := ⟨_, rfl⟩
   obtain ⟨hx1, hx2⟩ := HX.out _ (List.getElem_mem hkl)
   rw [← hxe] at hx1
   rw [← hme] at hx2
   have hak : k < (arcOf l).length := by rw [arcOf_len]; exact hkl
   have hst := tab_step (arcOf l) hak
   have hle := tab_le (arcOf l) (k + 1)
   have hle2 := tab_le (arcOf l) k
   have hl38 := HL.out
   have ha1 : (arcOf l)[k].1 = x := by rw [hxe]; simp [arcOf]
   have ha2 : (arcOf l)[k].2.length = m := by rw [hme]; simp [arcOf]
   rw [arcOf_len, ← HNN.out] at hst hle hle2
   rw [ha1, ha2] at hst
   clear ha1 ha2
   generalize hu : lebl n ++ ((arcOf l).take k).flatMap arEnt = u at *
   generalize hu2 : lebl n ++ ((arcOf l).take (k + 1)).flatMap arEnt = u2 at *
   have hul : u.length < 2 ^ 38 := by omega
   have HST := Hi hst
   have hlk : (getA l x) = some l[k].2 := by rw [hxe]; exact getA_mem H.out.up (List.getElem_mem hkl)
   have HLK := Hi hlk
   have HME := Hi hme
   obtain ⟨b, o, rfl, hc⟩ := HR.out.mod HMW.out HFR.out k (.string x) (by simp [sts, hxe, hkl])
   have HT := Hi (textG_any hW.out x (by omega) (by omega))
   have HU2 := Hi hu2
   have HLE := Hi hle
   clear hst hle hle2 hl38 hu hu2 hlk hme hxe
   go_wp2_with fail
   refine HT.out.mono ?_
   rintro e w4 ⟨rfl, h4⟩
   have H4 := Hi h4
   clear h4 HT
   have HM4 : Hid (Mod (fun _ => False) w w4) := Hi (HM3.out.step H4.out.choose_spec.2.mod fun b hb e => by have := HA3.out b e; omega)
   have p0 : w4.cell? ⟨p, 0, none⟩ = some (.map mb) := cell_at (j := 0) (HM4.out.at HP.out id) rfl
   have hlook := (H.out.mod HM4.out fun _ _ => id).look x (by unfold maxLen; omega)
   rw [HLK.out] at hlook
   simp only [fval, En.val] at hlook
   rw [← HME.out] at hlook
   have HN : Hid (Calls Tryz.prog 83 #[.pointer (some ⟨q, 0, none⟩), .slice (some ⟨w4.heap.size, 0, none⟩) 1 1] (w4.alloc (.cells #[.int .u64 m] 66)) fun e w' => e = .returned (.tuple #[]) ∧ WrG w3 w' q a3 u2) := Hi (by
    have h := numG_any H4.out [m] (by simp; omega) 1 (by have := HST.out; have h2 := congrArg List.length this; have := HL.out; have := HLE.out; simp only [List.length_append, List.length_cons, List.length_nil] at h2 ⊢; omega)
    rw [HST.out]
    simpa [u64s] using h)
   have e1 : (m : Int) % 18446744073709551616 = m := by omega
   go_wp2_with fail
   refine HN.out.mono ?_
   rintro e w5 ⟨rfl, h5⟩
   have H5 := Hi h5
   clear h5 HN hlook p0
   go_wp2_with fail
   go_roundw
   case rel => exact ⟨k + 1, by go_num, hlt, Hi (by rw [HU2.out]; exact H5.out)⟩
   case measure => simp [intOf]; omega
  ·obtain rfl : n = k := by omega
   have hfl : (arcOf l).take n = arcOf l := List.take_of_length_le (by rw [arcOf_len, ← HNN.out]; exact Nat.le_refl _)
   have HW : Hid (WrG w3 wr q a3 (arTab (arcOf l))) := Hi (by
    have h := hW.out
    rw [hfl] at h
    unfold arTab
    rw [arcOf_len, ← HNN.out]
    exact h)
   clear hW hfl
   obtain ⟨ra, h6, h7⟩ := HW.out
   have H6 := Hi h6
   have H9 := HM0
   have HNE : Hid (arTab (arcOf l) ≠ []) := Hi (by unfold arTab; have := lebl_pos (arcOf l).length; intro e; rw [List.append_eq_nil_iff] at e; rw [e.1] at this; simp at this)
   clear h6 h7
   go_wp2_with fail
   refine (bytes_any q ra _ wr H6.out (by have := HL.out; omega) HNE.out).mono ?_
   rintro e w7 ⟨g, c', rfl, hg, hO, hm⟩
   have HO := Hi hO
   have HM := Hi (H9.out.step hm fun _ _ e => e)
   have HG : Hid (w.heap.size ≤ g) := Hi (Nat.le_trans H9.out.size hg)
   clear hg hO hm
   go_wp2_with fail
   go_ret
   exact ⟨g, c', rfl, HO.out, HG.out, HM.out⟩
end Go.Proofs.YtjoiaejbahdjkaaGreat
/-
  How many bytes an archive has.
-/
namespace Go.Proofs.YtjoiaejbahdjkaaGreat
open Go Go.RowKit Go.Mine Go.Maps
set_option linter.unusedVariables false
set_option maxHeartbeats 8000000
set_option maxRecDepth 100000
def keyB (x : ByteArray) : Lit := .string x.data.toList
theorem keyB_inj {x y : ByteArray} (h : keyB x = keyB y) : x = y := by
 by_cases e : x = y
 ·exact e
 ·exact absurd h (str_lit e)
theorem keyB_lit (x : ByteArray) : WideAt.IsKeyLit (keyB x) := trivial
theorem key_same (x y : ByteArray) : (keyB x).sameKey (keyB y) = decide (x = y) := by
 by_cases e : x = y
 ·subst e; rw [decide_eq_true rfl]; exact WideAt.sameKey_self (keyB_lit x)
 ·rw [decide_eq_false e]
  cases h : (keyB x).sameKey (keyB y) with
  | false => rfl
  | true => exact absurd (keyB_inj (WideAt.sameKey_eq h)) e
theorem key_inv {key : Value} {kl : Lit} (h : keyOf Tryz.prog 9 key = some kl) : ∃ x : ByteArray, key = .string x ∧ kl = keyB x ∧ x.size ≤ maxLen := by
 cases key <;> simp [keyOf, Tryz.underlying9, mapKey] at h
 exact ⟨_, rfl, h.2.symm, h.1⟩
def doneN (l : Ens) (left : Lit → Bool) : Nat := (l.map fun p => bif left (keyB p.1) then 0 else p.2.f.length).sum
theorem doneN_cons (p : ByteArray × En) (r : Ens) (f : Lit → Bool) : doneN (p :: r) f = (bif f (keyB p.1) then 0 else p.2.f.length) + doneN r f := by unfold doneN; rw [List.map_cons, List.sum_cons]
theorem doneN_start {l : Ens} {left : Lit → Bool} (h : ∀ p ∈ l, left (keyB p.1) = true) : doneN l left = 0 := by
 induction l with
 | nil => rfl
 | cons p r ih => rw [doneN_cons, h p (by simp), ih fun q hq => h q (List.mem_cons_of_mem _ hq)]; rfl
theorem doneN_end {l : Ens} {left : Lit → Bool} (h : ∀ k, left k = false) : doneN l left = arLen (arcOf l) := by
 induction l with
 | nil => rfl
 | cons p r ih => rw [doneN_cons, h, ih]; rfl
theorem doneN_le (l : Ens) (left : Lit → Bool) : doneN l left ≤ arLen (arcOf l) := by
 induction l with
 | nil => exact Nat.le_refl _
 | cons p r ih =>
   rw [doneN_cons, show arLen (arcOf (p :: r)) = p.2.f.length + arLen (arcOf r) from rfl]
   cases left (keyB p.1)
   ·simp only [cond_false]; omega
   ·simp only [cond_true]; omega
theorem doneN_same {l : Ens} {left : Lit → Bool} {x : ByteArray} (h : ∀ p ∈ l, p.1 ≠ x) : doneN l (fun z => left z && !z.sameKey (keyB x)) = doneN l left := by
 induction l with
 | nil => rfl
 | cons p r ih =>
   rw [doneN_cons, doneN_cons, ih fun q hq => h q (List.mem_cons_of_mem _ hq), key_same, decide_eq_false (h p (by simp))]
   simp
theorem doneN_step {l : Ens} (hu : UpA l) {left : Lit → Bool} {x : ByteArray} {e : En} (hm : (x, e) ∈ l) (hl : left (keyB x) = true) : doneN l (fun z => left z && !z.sameKey (keyB x)) = doneN l left + e.f.length := by
 induction l with
 | nil => cases hm
 | cons p r ih =>
   rw [doneN_cons, doneN_cons]
   rcases List.mem_cons.1 hm with rfl | hm
   ·rw [doneN_same fun q hq e2 => by have h3 := hu.head hq; simp only [e2, strict_blt.irr] at h3; cases h3]
    rw [key_same, decide_eq_true rfl, hl]
    simp
    omega
   ·have h3 := hu.head hm
    have hne : p.1 ≠ x := fun e2 => by simp only [e2, strict_blt.irr] at h3; cases h3
    rw [ih hu.tail hm, key_same, decide_eq_false hne]
    simp only [Bool.not_false, Bool.and_true]
    omega
theorem next_file {w : World} {ops : Array Oper} {rest : List Oper} {o : Oper} {a : Act} {Q : Exit → Act → World → Prop} (hg : o.guard = none) (it : Operand) (hop : o.op = Op.next it false) {B r : Nat} {l : Ens} {D : DataW Unit} {left : Lit → Bool} {cnt : Nat}
 (hup : UpA l) (hD : ∀ x : ByteArray, D.atKey (.string x.data.toList) (.agg []) = fdat (getA l x)) (hH : ∀ x : ByteArray, Maps.has D (.string x.data.toList) = (getA l x).isSome)
 (hit : a.eval it = .pointer (some ⟨r, 0, none⟩)) (h : w.ranges Tryz.prog 9 hdrE B r l.length D left cnt)
 (hDone : cnt = 0 → (∀ kl, left kl = false) → wpList Tryz.prog ops Q rest (a.put o.dst (.tuple #[.bool false])) w)
 (hMore : ∀ (x : ByteArray) (e : En) (w' : World) (cnt' : Nat), (x, e) ∈ l → left (keyB x) = true → w'.ranges Tryz.prog 9 hdrE B r l.length D (fun z => left z && !z.sameKey (keyB x)) cnt' → cnt' < cnt →
  w.grownBy w' (some r) → w'.heap.size = w.heap.size → (Instr.entry (.pointer (some ⟨r, 0, none⟩))).run Tryz.prog w' = .ok (.tuple #[.string x, e.val]) w' → wpList Tryz.prog ops Q rest (a.put o.dst (.tuple #[.bool true, .string x, e.val])) w') :
 wpList Tryz.prog ops Q (o :: rest) a w :=
 wpList_next_ranges w hg it hop 9 lawS hdrE Value.string (fun v : Value => v) (fun key kl hkey => by obtain ⟨x, rfl, _⟩ := key_inv hkey; exact ⟨x, rfl⟩) (fun v y hv => ⟨v, rfl⟩)
  B r l.length D left cnt hit h hDone (fun x c kl y w' cnt' hkey hlk hv hat hrg hlt hgr hsz hen => by
   obtain ⟨x', ex, rfl, hx⟩ := key_inv hkey
   cases ex
   have h1 : Maps.has D (keyB x) = true := Maps.has_true_of_atKey hat
   rw [show keyB x = .string x.data.toList from rfl, hH, Option.isSome_iff_exists] at h1
   obtain ⟨e, he⟩ := h1
   have h2 := hat (.agg [])
   rw [show keyB x = .string x.data.toList from rfl, hD, he] at h2
   have h3 : c = e.val := by
    obtain ⟨d, ps⟩ := y
    simp only at h2
    rw [← h2] at hv
    exact hdrE_dat hv
   subst h3
   exact hMore x e w' cnt' (getA_some he) hlk hrg hlt hgr hsz hen)
theorem arSize_any (p : Nat) (mb : Option Nat) (l : Ens) (w : World) (hp : w.heap[p]? = some (.cells #[.map mb] 46 (0, 0))) (h : MAt w mb l) (hl : arSz (arcOf l) < 2 ^ 38) (hn : l.length < 2 ^ 38) (hx : ∀ q ∈ l, q.1.size ≤ 4096 ∧ q.2.f.length < 2 ^ 40) :
 Calls Tryz.prog 48 #[.pointer (some ⟨p, 0, none⟩)] w fun e w' => e = .returned (.int .i64 (arSz (arcOf l) : Nat)) ∧ Mine.Mod (fun _ => False) w w' := by
 have hl2 : (arTab (arcOf l)).length + arLen (arcOf l) + 14 = arSz (arcOf l) := by unfold arSz; omega
 have HT := Hi (table_any p mb l w hp h (by omega) hn hx)
 have HP := Hi hp
 have H := Hi h
 have HX := Hi hx
 clear hp h hx
 obtain ⟨t, ht⟩ : ∃ t, t = (arTab (arcOf l)).length := ⟨_, rfl⟩
 obtain ⟨s, hs⟩ : ∃ s, s = arLen (arcOf l) := ⟨_, rfl⟩
 rw [← ht, ← hs] at hl2
 rw [← ht] at HT
 have hz : arSz (arcOf l) = t + s + 14 := hl2.symm
 rw [hz] at hl ⊢
 have HS := Hi hs
 clear hl2 hz hs ht
 go_enter Tryz.func48, Tryz.ntmps48
 go_wp2_with fail
 refine HT.out.mono ?_
 rintro e w1 ⟨g, c, rfl, _, hg, hm⟩
 have p0 : w1.cell? ⟨p, 0, none⟩ = some (.map mb) := cell_at (j := 0) (hm.at HP.out id) rfl
 have HM := Hi hm
 have H1 := Hi (H.out.mod hm fun _ _ => id)
 clear hm hg HT HP H
 rcases H1.out with ⟨rfl, rfl⟩ | ⟨B, rfl, hB⟩
 ·have hs0 : s = 0 := HS.out
  subst hs0
  clear HX H1 HS
  have hrg := run_range_nilMap (P := Tryz.prog) w1 44 9 23 (by kernel_rfl)
  have hnx : ∀ ty, (Instr.next (.pointer (some ⟨w1.heap.size, 0, none⟩)) false ty).run Tryz.prog (w1.alloc (.mapIter none 0 #[] 0)) = _ := fun ty => run_next_nilMap w1 ty 0 0 #[]
  go_wp2_with fail
  refine wp_loop_rounds 1 ?_
  rw [rounds_succ]
  go_wp2_with fail
  go_ret
  exact ⟨by show Ending.returned (.int .i64 (10 + (t : Int) + 4)) = _; rw [show ((t + 0 + 14 : Nat) : Int) = 10 + (t : Int) + 4 by omega], HM.out.alloc _⟩
 ·obtain ⟨hup, D, hown, h3, h2, h4⟩ := hB
  clear H1
  have HUP := Hi hup; have H3 := Hi h3; have H2 := Hi h2; have H4 := Hi h4
  clear hup h3 h2 h4
  go_wp2_with (first
   |(at_range; refine wpList_range_own _ rfl _ 44 rfl 9 23 lawS (by kernel_rfl) hdrE B l.length D rfl hown ?_; intro w2 hrg0 hg0 hs0)
   | fail)
  go_frame
  clear hs0
  have HW2 : Hid (Mine.Mod (fun _ => False) w w2) := Hi ⟨hg0.os.trans HM.out.os, hg0.tape.trans HM.out.tape, hg0.output.trans HM.out.output, Nat.le_trans HM.out.size hg0.size, fun k hk _ => (hg0.block k (Nat.lt_of_lt_of_le hk HM.out.size) (by simp)).trans (HM.out.block k hk id)⟩
  have HR1 : Hid (w.heap.size ≤ w1.heap.size) := Hi HM.out.size
  have HRG := Hi hrg0
  clear hown p0 HM hg0 hrg0
  obtain ⟨r, hr⟩ : ∃ r, r = w1.heap.size := ⟨_, rfl⟩
  rw [← hr] at HR1 HRG ⊢
  clear hr
  go_loopw [3] (fun nv wr => ∃ (left : Lit → Bool) (cnt : Nat), nv = .int .i64 ((t + 14 + doneN l left : Nat) : Int) ∧ Hid (wr.ranges Tryz.prog 9 hdrE B r l.length D left cnt) ∧ Hid (Mine.Mod (fun _ => False) w wr)) (fun _ wr => wr.rangeLeft B r)
  case atStart =>
   refine ⟨Maps.has D, Maps.size D, ?_, HRG, HW2⟩
   rw [doneN_start fun q hq => by
    show Maps.has D (.string q.1.data.toList) = true
    rw [H4.out, getA_mem HUP.out hq]; rfl]
   congr 1
   omega
  case round =>
   obtain ⟨left, cnt, rfl, hR, hM⟩ := hrel
   have hle := doneN_le l left
   rw [← HS.out] at hle
   obtain ⟨dn, hdn⟩ : ∃ dn, dn = doneN l left := ⟨_, rfl⟩
   rw [← hdn] at hle ⊢
   have HDN := Hi hdn
   have HLE := Hi hle
   clear hdn hle
   go_wp2_with (first
    |(at_next; refine next_file rfl _ rfl HUP.out H2.out H4.out rfl hR.out ?_ ?_)
    | fail)
   ·intro hc0 hl0
    have hd := HDN.out
    rw [doneN_end hl0, ← HS.out] at hd
    subst hd
    clear HDN hl0
    go_wp2_with fail
    go_ret
    exact ⟨by show Ending.returned (.int .i64 ((t : Int) + 14 + dn)) = _; rw [show ((t + dn + 14 : Nat) : Int) = (t : Int) + 14 + dn by omega], hM.out⟩
   ·intro x e w4 cnt4 hmem hlx hrg hlt hgr hsz hen
    have HST := Hi (doneN_step HUP.out hmem hlx)
    have hle2 := doneN_le l (fun z => left z && !z.sameKey (keyB x))
    rw [← HS.out, HST.out, ← HDN.out] at hle2
    have HRG4 := Hi hrg
    have HLT := Hi hlt
    have HM4 : Hid (Mine.Mod (fun _ => False) w w4) := Hi (hM.out.grown hgr fun k hk hkw => by have := HR1.out; cases hk; omega)
    clear hrg hlt hgr hsz hmem hlx
    simp only [En.val] at hen ⊢
    generalize e.f.length = m at *
    go_wp2_with fail
    go_roundw
    case rel =>
     refine ⟨_, cnt4, ?_, HRG4, HM4⟩
     rw [HST.out, ← HDN.out]
     congr 1
     go_num
    case measure =>
     rw [HRG4.out.left_eq, hR.out.left_eq]
     have := HLT.out
     omega
end Go.Proofs.YtjoiaejbahdjkaaGreat
/-
  A file is laid into an archive.
-/
namespace Go.Proofs.YtjoiaejbahdjkaaGreat
open Go Go.RowKit Go.Mine Go.Maps
set_option linter.unusedVariables false
set_option maxHeartbeats 8000000
set_option maxRecDepth 100000
def TakeP (p : Nat) (mb : Option Nat) (l : Ens) (f : List UInt8) (w : World) (e : Ending) (w' : World) : Prop :=
 (∃ k, decA f = .error k ∧ k ≠ 0 ∧ e = .returned (.tuple #[.string ⟨#[]⟩, .int .i64 k]) ∧ Mine.Mod (fun _ => False) w w') ∨
 (∃ x B g c, decA f = .ok x ∧ e = .returned (.tuple #[.string x, .int .i64 0]) ∧ w'.heap[p]? = some (.cells #[.map (some B)] 46 (0, 0)) ∧ HMap w' B (putA l x ⟨g, c, f⟩) ∧ Rd w' (some ⟨g, 0, none⟩) (bts f) ∧ w.heap.size ≤ g ∧
  (mb = some B ∨ w.heap.size ≤ B) ∧ Mine.Mod (fun b => b = p ∨ mb = some b) w w')
theorem mapNil (w : World) (r : Option Nat) : (binOp .eql 44 (.map r) (.map none)).run Tryz.prog w = .ok (.bool r.isNone) w := run_eql_map_nil w _ _ _ r Tryz.underlying44
theorem bytes_ne {w : World} {a : Option Addr} {f : List UInt8} {p : Nat} {cs : Array Value} {t : TypeId} {fz : Nat × Nat} (h : Rd w a (bts f)) (hf : f ≠ []) (hp : w.heap[p]? = some (.cells cs t fz)) (hc : ∀ (j : Nat) (v : Value), cs[j]? = some v → ∀ n : Int, v ≠ Value.int .u8 n) : ∀ b, blk a = some b → b ≠ p := by
 rintro b hb rfl
 have hpos := List.length_pos_iff.2 hf
 obtain ⟨b', o, rfl, hcell⟩ := h 0 (.int .u8 (f[0]'hpos).toNat) (by simp [bts, hpos])
 have hb' : b' = b := by simpa [blk] using hb
 subst hb'
 rw [Nat.add_zero] at hcell
 cases hj : cs[o]? with
 | some v =>
   have h2 := cell_at (j := o) hp hj
   rw [hcell] at h2
   exact hc o v hj _ (Option.some.inj h2).symm
 | none =>
   unfold World.cell? at hcell
   simp [hp, hj] at hcell
theorem take_any (p : Nat) (mb : Option Nat) (l : Ens) (a : Option Addr) (c : Nat) (f : List UInt8) (w : World) (hp : w.heap[p]? = some (.cells #[.map mb] 46 (0, 0))) (h : MAt w mb l) (hn : l.length < 2 ^ 38) (hr : Rd w a (bts f)) (hc : f.length ≤ c) (hl : f.length < 2 ^ 40) :
 Calls Tryz.prog 35 #[.pointer (some ⟨p, 0, none⟩), .slice a f.length c] w (TakeP p mb l f w) := by
 have HDE := Hi (decodeF_any a c f w hr hc hl)
 have HP := Hi hp
 have H := Hi h
 have HR := Hi hr
 clear hp h hr
 go_enter Tryz.func35, Tryz.ntmps35
 go_wp2_with fail
 refine HDE.out.mono ?_
 clear HDE
 rintro e w1 ⟨⟨k, hbad, rfl⟩ | ⟨F, ra, rc, hgood, rfl, _⟩, hm⟩
 ·obtain ⟨hd, hk⟩ := decA_bad hbad
  have HD := Hi hd
  have HM := Hi hm
  clear hbad hd hm
  have e1 : ((k : Int) != 0) = true := by simp; omega
  go_wp2_with fail
  refine bodyPost_ret (v := .tuple #[.string ⟨#[]⟩, .int .i64 k]) ?_ rfl (.inl ⟨k, HD.out, hk, rfl, HM.out.alloc _⟩)
  simp [results, Tryz.results35, go_sem]
 ·have HD := Hi (decA_good hgood)
  have HM := Hi hm
  clear hgood hm
  simp only [relV]
  obtain ⟨x, hx⟩ : ∃ x : ByteArray, x = ⟨F.nm.toArray⟩ := ⟨_, rfl⟩
  rw [← hx] at HD ⊢
  clear hx
  have HOK := Hi (decA_ok HD.out)
  obtain ⟨r, hr⟩ : ∃ r, r = w1.heap.size := ⟨_, rfl⟩
  have HW2 : Hid (Mine.Mod (fun _ => False) w (w1.alloc (.cells #[.string x, .int .i64 F.A, .slice ra F.n rc] 86))) := Hi (HM.out.alloc _)
  have HBX2 : Hid ((w1.alloc (.cells #[.string x, .int .i64 F.A, .slice ra F.n rc] 86)).heap[r]? = some (.cells #[.string x, .int .i64 F.A, .slice ra F.n rc] 86 (0, 0))) := Hi (by rw [hr]; exact heap_alloc_new w1 _)
  have hrw : Hid (w.heap.size ≤ r) := Hi (by rw [hr]; exact HM.out.size)
  have HRS : Hid (r < (w1.alloc (.cells #[.string x, .int .i64 F.A, .slice ra F.n rc] 86)).heap.size) := Hi (by rw [hr]; simp)
  have hnil := mapNil
  have hmm := @run_makeMap Tryz.prog
  have p0 : (w1.alloc (.cells #[.string x, .int .i64 F.A, .slice ra F.n rc] 86)).cell? ⟨p, 0, none⟩ = some (.map mb) := cell_at (j := 0) (HW2.out.at HP.out id) rfl
  have pf0 : (w1.alloc (.cells #[.string x, .int .i64 F.A, .slice ra F.n rc] 86)).frozen? ⟨p, 0, none⟩ = false := frozen_at (j := 0) (HW2.out.at HP.out id)
  rcases H.out with ⟨rfl, rfl⟩ | ⟨B, rfl, hB⟩
  ·clear H
   have HW3 : Hid (Mine.Mod (fun _ => False) w ((w1.alloc (.cells #[.string x, .int .i64 F.A, .slice ra F.n rc] 86)).alloc (.map #[] 0))) := Hi (HW2.out.alloc _)
   have p1 : ((w1.alloc (.cells #[.string x, .int .i64 F.A, .slice ra F.n rc] 86)).alloc (.map #[] 0)).cell? ⟨p, 0, none⟩ = some (.map none) := cell_at (j := 0) (HW3.out.at HP.out id) rfl
   have pf1 : ((w1.alloc (.cells #[.string x, .int .i64 F.A, .slice ra F.n rc] 86)).alloc (.map #[] 0)).frozen? ⟨p, 0, none⟩ = false := frozen_at (j := 0) (HW3.out.at HP.out id)
   go_upto_region 6 with fail
   rw [← hr]
   obtain ⟨B, hB⟩ : ∃ B, B = r + 1 := ⟨_, rfl⟩
   rw [← hB]
   have hBs : B = (w1.alloc (.cells #[.string x, .int .i64 F.A, .slice ra F.n rc] 86)).heap.size := by rw [hB, hr]; simp
   have HHB3 : Hid (HMap ((w1.alloc (.cells #[.string x, .int .i64 F.A, .slice ra F.n rc] 86)).alloc (.map #[] 0)) B []) := Hi (by rw [hBs]; exact HMap.made _)
   have HBX3 : Hid (((w1.alloc (.cells #[.string x, .int .i64 F.A, .slice ra F.n rc] 86)).alloc (.map #[] 0)).heap[r]? = some (.cells #[.string x, .int .i64 F.A, .slice ra F.n rc] 86 (0, 0))) := Hi (((Mod.refl (fun _ => False) _).alloc _).at HBX2.out id)
   have HRB3 : Hid (Rd ((w1.alloc (.cells #[.string x, .int .i64 F.A, .slice ra F.n rc] 86)).alloc (.map #[] 0)) a (bts f)) := Hi (HR.out.mod HW3.out fun _ _ => id)
   have hpw : p < w.heap.size := (Array.getElem?_eq_some_iff.1 HP.out).1
   have hBw : w.heap.size ≤ B := by have := hrw.out; omega
   have HP3 := Hi (HW3.out.at HP.out id)
   clear hr hBs hnil hmm p0 pf0 HBX2 HW2 HRS p1 pf1 HP
   have hrp : r ≠ p := by have := hrw.out; omega
   have hBp0 : B ≠ p := by omega
   generalize ((w1.alloc (.cells #[.string x, .int .i64 F.A, .slice ra F.n rc] 86)).alloc (.map #[] 0)) = w3 at *
   have hset : Mine.Mod (fun b => b = p) w3 (w3.setCell ⟨p, 0, none⟩ (.map (some B))) := (Mod.refl (fun b => b = p) w3).setCell (p := ⟨p, 0, none⟩) (fun _ => rfl) _
   have HPB : Hid ((w3.setCell ⟨p, 0, none⟩ (.map (some B))).heap[p]? = some (.cells #[.map (some B)] 46 (0, 0))) := Hi (heap_setCell_at _ HP3.out)
   have HHB : Hid (HMap (w3.setCell ⟨p, 0, none⟩ (.map (some B))) B []) := Hi (HHB3.out.mod hset hBp0)
   have HBX : Hid ((w3.setCell ⟨p, 0, none⟩ (.map (some B))).heap[r]? = some (.cells #[.string x, .int .i64 F.A, .slice ra F.n rc] 86 (0, 0))) := Hi (hset.at HBX3.out hrp)
   have HRB : Hid (Rd (w3.setCell ⟨p, 0, none⟩ (.map (some B))) a (bts f)) := Hi (by
    refine HRB3.out.mod hset fun b hb e => ?_
    exact bytes_ne HRB3.out HOK.out.2.1 HP3.out (fun j v hj n e2 => by
     subst e2
     match j with
     | 0 => cases hj
     | _ + 1 => simp at hj) b hb e)
   have HMB : Hid (Mine.Mod (fun b => b = p ∨ (none : Option Nat) = some b) w (w3.setCell ⟨p, 0, none⟩ (.map (some B)))) := Hi (HW3.out.mono (fun _ _ e => e.elim) |>.step hset fun b _ e => .inl e)
   have HBM : Hid (w.heap.size ≤ B) := Hi hBw
   clear hset HHB3 HBX3 HRB3 HP3 HW3 hBw hB hrp hBp0 hpw
   generalize w3.setCell ⟨p, 0, none⟩ (.map (some B)) = wb at *
   have hBp : B ≠ p := fun e => by
    obtain ⟨es, clock, hb⟩ := HHB.out.obj
    rw [e, HPB.out] at hb
    cases hb
   have hBr : B ≠ r := fun e => by
    obtain ⟨es, clock, hb⟩ := HHB.out.obj
    rw [e, HBX.out] at hb
    cases hb
   have HNE : Hid (B ≠ p ∧ B ≠ r) := Hi ⟨hBp, hBr⟩
   clear hBp hBr
   have p0 : wb.cell? ⟨p, 0, none⟩ = some (.map (some B)) := cell_at (j := 0) HPB.out rfl
   have x0 : wb.cell? ⟨r, 0, none⟩ = some (.string x) := cell_at (j := 0) HBX.out rfl
   obtain ⟨hx1, hf1, hf2, _⟩ := HOK.out
   obtain ⟨ab, rfl⟩ : ∃ ab, a = some ab := by
    have h := HR.out 0 (.int .u8 (f[0]'(List.length_pos_iff.2 hf1)).toNat) (by simp [bts, List.length_pos_iff.2 hf1])
    obtain ⟨b, o, e, _⟩ := h
    exact ⟨_, e⟩
   have hRb : Rd wb (some ab) (bts f) := HRB.out
   have HCL : Hid (∀ W, Mine.Mod (fun _ => False) wb W → Calls Tryz.prog 61 #[.slice (some ab) f.length c] W fun e w' => ∃ g c', e = .returned (.slice (some ⟨g, 0, none⟩) f.length c') ∧ W.heap.size ≤ g ∧ Mine.Own w' 5 1 (some ⟨g, 0, none⟩) f.length c' (bts f) ∧ Mine.Mod (fun _ => False) W w') := Hi fun W hW => clone_some ab f c W (hRb.mod hW fun _ _ => id) hl
   clear hRb hx1 hf1 hf2
   refine wp_region_ord (fun w' => w'.cell? ⟨p, 0, none⟩ = some (.map (some B)) ∧ w'.cell? ⟨r, 0, none⟩ = some (.string x)) [(0, 0), (0, 1), (0, 2), (1, 3), (0, 4), (1, 5), (0, 6), (2, 7), (3, 8)] (by kernel_rfl) (by kernel_rfl) ?_
   go_wp2_with (first
    |(refine ord_pure rfl rfl rfl (fun K hK => ?_); go_big_quiet_op; refine hK _ ?_; clear hK K)
    |(refine ord_held rfl rfl rfl (⟨p0, x0⟩) (fun K hK => ?_); apply Exists.intro; refine ⟨fun w' hs => ?_, hK _ ?_⟩; (revert hs; dsimp only; (try simp only [and_imp]); intros; go_simp; rfl); clear hK K)
    |(refine ord_keep rfl rfl (⟨p0, x0⟩) (fun K hK => ?_))
    |(refine ord_drop rfl rfl (fun K hK => ?_))
    |(refine ord_nil ?_))
   refine (HCL.out _ (Mod.refl _ wb).drew).mono ?_
   rintro e w4 ⟨g, c4, rfl, hg, hO, hm4⟩
   have HO := Hi hO
   have HM4 : Hid (Mine.Mod (fun _ => False) wb w4) := Hi ((Mod.refl _ wb).drew.step hm4 fun _ _ e => e)
   have HG : Hid (wb.heap.size ≤ g) := Hi hg
   clear hO hm4 hg HCL
   refine hK _ _ ⟨HM4.out.cell p0 id, HM4.out.cell x0 id⟩ ?_; clear hK K
   obtain ⟨w5, hrun, hH5, hg5⟩ := (HHB.out.mod HM4.out id).put x ⟨g, c4, f⟩ (by have := HOK.out.1; unfold maxLen; omega) (by unfold maxLen; omega)
   simp only [En.val] at hrun
   have HH5 := Hi hH5
   have HG5 := Hi hg5
   have HM5 : Hid (Mine.Mod (fun b => b = B) w4 w5) := Hi ((Mod.refl (fun b => b = B) w4).grown hg5 fun k hk _ => by cases hk; rfl)
   clear hH5 hg5
   have x5 : w5.cell? ⟨r, 0, none⟩ = some (.string x) := HM5.out.cell (HM4.out.cell x0 id) (fun e => HNE.out.2 e.symm)
   go_wp2_with (first
    |(refine ord_pure rfl rfl rfl (fun K hK => ?_); go_big_quiet_op; refine hK _ ?_; clear hK K)
    |(refine ord_held rfl rfl rfl (⟨p0, x0⟩) (fun K hK => ?_); apply Exists.intro; refine ⟨fun w' hs => ?_, hK _ ?_⟩; (revert hs; dsimp only; (try simp only [and_imp]); intros; go_simp; rfl); clear hK K)
    |(refine ord_keep rfl rfl (⟨p0, x0⟩) (fun K hK => ?_))
    |(refine ord_drop rfl rfl (fun K hK => ?_))
    |(refine ord_nil ?_))
   have hgB : g ≠ B := fun e => by have h1 := HHB.out.lt; have h2 := HG.out; omega
   have hgp : w.heap.size ≤ g := Nat.le_trans HMB.out.size HG.out
   refine bodyPost_ret (v := .tuple #[.string x, .int .i64 0]) ?_ rfl (.inr ⟨x, B, g, c4, HD.out, rfl, HM5.out.at (HM4.out.at HPB.out id) (fun e => HNE.out.1 e.symm), HH5.out, HO.out.rd.mod HM5.out (fun b hb e => hgB (by rw [← show b = B from e]; simpa [blk] using hb)), hgp, .inr HBM.out, ?_⟩)
   ·simp [results, Tryz.results35, go_sem]
   ·refine (HMB.out.step HM4.out fun _ _ e => e.elim).step HM5.out fun b hb e => ?_
    have h1 := HBM.out; have h2 : b = B := e; omega
  ·have HB := Hi hB
   clear hB H
   go_upto_region 6 with fail
   rw [← hr]
   clear hr
   generalize w1.alloc (.cells #[.string x, .int .i64 F.A, .slice ra F.n rc] 86) = wb at *
   have HPB : Hid (wb.heap[p]? = some (.cells #[.map (some B)] 46 (0, 0))) := Hi (HW2.out.at HP.out id)
   have HHB : Hid (HMap wb B l) := Hi (HB.out.mod HW2.out id)
   have HBX : Hid (wb.heap[r]? = some (.cells #[.string x, .int .i64 F.A, .slice ra F.n rc] 86 (0, 0))) := HBX2
   have HRB : Hid (Rd wb a (bts f)) := Hi (HR.out.mod HW2.out fun _ _ => id)
   have HMB : Hid (Mine.Mod (fun b => b = p ∨ some B = some b) w wb) := Hi (HW2.out.mono fun _ _ e => e.elim)
   clear HB HBX2 HW2 HRS p0 pf0 hnil hmm
   have hBp : B ≠ p := fun e => by
    obtain ⟨es, clock, hb⟩ := HHB.out.obj
    rw [e, HPB.out] at hb
    cases hb
   have hBr : B ≠ r := fun e => by
    obtain ⟨es, clock, hb⟩ := HHB.out.obj
    rw [e, HBX.out] at hb
    cases hb
   have HNE : Hid (B ≠ p ∧ B ≠ r) := Hi ⟨hBp, hBr⟩
   clear hBp hBr
   have p0 : wb.cell? ⟨p, 0, none⟩ = some (.map (some B)) := cell_at (j := 0) HPB.out rfl
   have x0 : wb.cell? ⟨r, 0, none⟩ = some (.string x) := cell_at (j := 0) HBX.out rfl
   obtain ⟨hx1, hf1, hf2, _⟩ := HOK.out
   obtain ⟨ab, rfl⟩ : ∃ ab, a = some ab := by
    have h := HR.out 0 (.int .u8 (f[0]'(List.length_pos_iff.2 hf1)).toNat) (by simp [bts, List.length_pos_iff.2 hf1])
    obtain ⟨b, o, e, _⟩ := h
    exact ⟨_, e⟩
   have hRb : Rd wb (some ab) (bts f) := HRB.out
   have HCL : Hid (∀ W, Mine.Mod (fun _ => False) wb W → Calls Tryz.prog 61 #[.slice (some ab) f.length c] W fun e w' => ∃ g c', e = .returned (.slice (some ⟨g, 0, none⟩) f.length c') ∧ W.heap.size ≤ g ∧ Mine.Own w' 5 1 (some ⟨g, 0, none⟩) f.length c' (bts f) ∧ Mine.Mod (fun _ => False) W w') := Hi fun W hW => clone_some ab f c W (hRb.mod hW fun _ _ => id) hl
   clear hRb hx1 hf1 hf2
   refine wp_region_ord (fun w' => w'.cell? ⟨p, 0, none⟩ = some (.map (some B)) ∧ w'.cell? ⟨r, 0, none⟩ = some (.string x)) [(0, 0), (0, 1), (0, 2), (1, 3), (0, 4), (1, 5), (0, 6), (2, 7), (3, 8)] (by kernel_rfl) (by kernel_rfl) ?_
   go_wp2_with (first
    |(refine ord_pure rfl rfl rfl (fun K hK => ?_); go_big_quiet_op; refine hK _ ?_; clear hK K)
    |(refine ord_held rfl rfl rfl (⟨p0, x0⟩) (fun K hK => ?_); apply Exists.intro; refine ⟨fun w' hs => ?_, hK _ ?_⟩; (revert hs; dsimp only; (try simp only [and_imp]); intros; go_simp; rfl); clear hK K)
    |(refine ord_keep rfl rfl (⟨p0, x0⟩) (fun K hK => ?_))
    |(refine ord_drop rfl rfl (fun K hK => ?_))
    |(refine ord_nil ?_))
   refine (HCL.out _ (Mod.refl _ wb).drew).mono ?_
   rintro e w4 ⟨g, c4, rfl, hg, hO, hm4⟩
   have HO := Hi hO
   have HM4 : Hid (Mine.Mod (fun _ => False) wb w4) := Hi ((Mod.refl _ wb).drew.step hm4 fun _ _ e => e)
   have HG : Hid (wb.heap.size ≤ g) := Hi hg
   clear hO hm4 hg HCL
   refine hK _ _ ⟨HM4.out.cell p0 id, HM4.out.cell x0 id⟩ ?_; clear hK K
   obtain ⟨w5, hrun, hH5, hg5⟩ := (HHB.out.mod HM4.out id).put x ⟨g, c4, f⟩ (by have := HOK.out.1; unfold maxLen; omega) (by unfold maxLen; omega)
   simp only [En.val] at hrun
   have HH5 := Hi hH5
   have HG5 := Hi hg5
   have HM5 : Hid (Mine.Mod (fun b => b = B) w4 w5) := Hi ((Mod.refl (fun b => b = B) w4).grown hg5 fun k hk _ => by cases hk; rfl)
   clear hH5 hg5
   have x5 : w5.cell? ⟨r, 0, none⟩ = some (.string x) := HM5.out.cell (HM4.out.cell x0 id) (fun e => HNE.out.2 e.symm)
   go_wp2_with (first
    |(refine ord_pure rfl rfl rfl (fun K hK => ?_); go_big_quiet_op; refine hK _ ?_; clear hK K)
    |(refine ord_held rfl rfl rfl (⟨p0, x0⟩) (fun K hK => ?_); apply Exists.intro; refine ⟨fun w' hs => ?_, hK _ ?_⟩; (revert hs; dsimp only; (try simp only [and_imp]); intros; go_simp; rfl); clear hK K)
    |(refine ord_keep rfl rfl (⟨p0, x0⟩) (fun K hK => ?_))
    |(refine ord_drop rfl rfl (fun K hK => ?_))
    |(refine ord_nil ?_))
   have hgB : g ≠ B := fun e => by have h1 := HHB.out.lt; have h2 := HG.out; omega
   have hgp : w.heap.size ≤ g := Nat.le_trans HMB.out.size HG.out
   refine bodyPost_ret (v := .tuple #[.string x, .int .i64 0]) ?_ rfl (.inr ⟨x, B, g, c4, HD.out, rfl, HM5.out.at (HM4.out.at HPB.out id) (fun e => HNE.out.1 e.symm), HH5.out, HO.out.rd.mod HM5.out (fun b hb e => hgB (by rw [← show b = B from e]; simpa [blk] using hb)), hgp, .inl rfl, ?_⟩)
   ·simp [results, Tryz.results35, go_sem]
   ·refine (HMB.out.step HM4.out fun _ _ e => e.elim).step HM5.out fun b hb e => ?_
    exact .inr (congrArg some (show B = b from e.symm))
end Go.Proofs.YtjoiaejbahdjkaaGreat
/-
  Put: a file into an archive, if it's not too much.
-/
namespace Go.Proofs.YtjoiaejbahdjkaaGreat
open Go Go.RowKit Go.Mine Go.Maps
set_option linter.unusedVariables false
set_option maxHeartbeats 8000000
set_option maxRecDepth 100000
def EntOk (w : World) (l : Ens) : Prop := ∀ q ∈ l, q.2.f ≠ [] ∧ Rd w (some ⟨q.2.g, 0, none⟩) (bts q.2.f)
structure AAt (w : World) (p : Nat) (mb : Option Nat) (l : Ens) : Prop where
 box : w.heap[p]? = some (.cells #[.map mb] 46 (0, 0))
 map : MAt w mb l
 ents : EntOk w l
theorem map_ne {w : World} {a : Option Addr} {f : List UInt8} {mb : Option Nat} {l : Ens} (h : Rd w a (bts f)) (hf : f ≠ []) (hm : MAt w mb l) : ∀ b, blk a = some b → mb ≠ some b := by
 rintro b hb rfl
 rcases hm with ⟨e, _⟩ | ⟨B, e, hm⟩
 ·cases e
 ·cases e
  obtain ⟨es, clock, hB⟩ := hm.obj
  have hpos := List.length_pos_iff.2 hf
  obtain ⟨b', o, rfl, hcell⟩ := h 0 (.int .u8 (f[0]'hpos).toNat) (by simp [bts, hpos])
  have hb' : b' = b := by simpa [blk] using hb
  subst hb'
  unfold World.cell? at hcell
  simp [hB] at hcell
theorem box_ne {w : World} {a : Option Addr} {f : List UInt8} {p : Nat} {mb : Option Nat} (h : Rd w a (bts f)) (hf : f ≠ []) (hp : w.heap[p]? = some (.cells #[.map mb] 46 (0, 0))) : ∀ b, blk a = some b → b ≠ p :=
 bytes_ne h hf hp fun j v hj n e2 => by
  subst e2
  match j with
  | 0 => cases hj
  | _ + 1 => simp at hj
theorem EntOk.step {w w' : World} {p : Nat} {mb : Option Nat} {l : Ens} (h : AAt w p mb l) (m : Mine.Mod (fun b => b = p ∨ mb = some b) w w') : EntOk w' l := fun q hq => by
 obtain ⟨h1, h2⟩ := h.ents q hq
 refine ⟨h1, h2.mod m fun b hb e => ?_⟩
 rcases e with e | e
 ·exact box_ne h2 h1 h.box b hb e
 ·exact map_ne h2 h1 h.map b hb e
theorem AAt.mod {S : Nat → Prop} {w w' : World} {p : Nat} {mb : Option Nat} {l : Ens} (h : AAt w p mb l) (m : Mine.Mod S w w') (h1 : ¬ S p) (h2 : ∀ b, mb = some b → ¬ S b) (h3 : ∀ q ∈ l, ¬ S q.2.g) : AAt w' p mb l :=
 ⟨m.at h.box h1, h.map.mod m h2, fun q hq => ⟨(h.ents q hq).1, (h.ents q hq).2.mod m fun b hb => by
  have e : q.2.g = b := by simpa [blk] using hb
  rw [← e]; exact h3 q hq⟩⟩
theorem AAt.mod0 {w w' : World} {p : Nat} {mb : Option Nat} {l : Ens} (h : AAt w p mb l) (m : Mine.Mod (fun _ => False) w w') : AAt w' p mb l := h.mod m id (fun _ _ => id) (fun _ _ => id)
theorem arcOf_put (l : Ens) (x : ByteArray) (e : En) : arcOf (putA l x e) = putA (arcOf l) x e.f := putA_map (fun e : En => e.f)
structure Bnds (l : Ens) : Prop where
 sz : arSz (arcOf l) < 2 ^ 38
 n : l.length < 2 ^ 37
 x : ∀ q ∈ l, q.1.size ≤ 4096 ∧ q.2.f.length < 2 ^ 40
theorem ArcOk.bnds {m : Nat} {l : Ens} (h : ArcOk m (arcOf l)) (hm : m ≤ 200000000000) : Bnds l := by
 have h1 := h.few
 rw [arcOf_len] at h1
 refine ⟨by have := h.sz; omega, by omega, fun q hq => ?_⟩
 have hq2 : (q.1, q.2.f) ∈ arcOf l := List.mem_map.2 ⟨q, hq, rfl⟩
 have h2 := h.nm _ hq2
 have h3 := (h.fl _ hq2).2
 simp only at h2 h3
 exact ⟨h2, by omega⟩
theorem clone26_any (mb : Option Nat) (l : Ens) (w : World) (h : MAt w mb l) : Calls Tryz.prog 47 #[.map mb] w fun e w' => ∃ mc, e = .returned (.map mc) ∧ MAt w' mc l ∧ (∀ b, mc = some b → w.heap.size ≤ b) ∧ Mine.Mod (fun _ => False) w w' := by
 rcases h with ⟨rfl, rfl⟩ | ⟨B, rfl, hB⟩
 ·refine (clone_nil26 w).mono ?_
  rintro e w' ⟨rfl, rfl⟩
  exact ⟨none, rfl, .inl ⟨rfl, rfl⟩, (fun b h => by cases h), Mod.refl _ _⟩
 ·refine (clone_map26 B l w hB).mono ?_
  rintro e w' ⟨rfl, h1, h2⟩
  exact ⟨_, rfl, .inr ⟨_, rfl, h1⟩, (fun b h => by cases h; exact Nat.le_refl _), h2⟩
theorem new26_any (w : World) : Calls Tryz.prog 16 #[] w fun e w' => e = .returned (.pointer (some ⟨w.heap.size, 0, none⟩)) ∧ AAt w' w.heap.size none [] ∧ Mine.Mod (fun _ => False) w w' := by
 go_enter Tryz.func16, Tryz.ntmps16
 go_wp2
 go_ret
 exact ⟨rfl, ⟨heap_alloc_new w _, .inl ⟨rfl, rfl⟩, fun q hq => by cases hq⟩, (Mod.refl _ w).alloc _⟩
theorem put_any26 (p : Nat) (mb : Option Nat) (l : Ens) (a : Option Addr) (c : Nat) (f : List UInt8) (w : World) (h : AAt w p mb l) (hok : ArcOk 16777216 (arcOf l)) (hr : Rd w a (bts f)) (hc : f.length ≤ c) (hl : f.length < 2 ^ 40) :
 Calls Tryz.prog 19 #[.pointer (some ⟨p, 0, none⟩), .slice a f.length c] w fun e w' => ∃ mb' l', e = .returned (.int .i64 ((putS (arcOf l) f).1 : Nat)) ∧ arcOf l' = (putS (arcOf l) f).2 ∧ AAt w' p mb' l' ∧ (∀ q ∈ l', q ∈ l ∨ w.heap.size ≤ q.2.g) ∧ (mb' = mb ∨ ∀ b, mb' = some b → w.heap.size ≤ b) ∧ Mine.Mod (fun b => b = p ∨ mb = some b) w w' := by
 have H := Hi h
 have HR := Hi hr
 have HOK := Hi hok
 have HB := Hi (hok.bnds (by decide))
 have p0 := cell_at (j := 0) h.box rfl
 clear h hr hok
 go_enter Tryz.func19, Tryz.ntmps19
 go_wp2_with fail
 refine (clone26_any mb l w H.out.map).mono ?_
 rintro e w1 ⟨mc, rfl, hC, hf, hm⟩
 have HC := Hi hC; have HF := Hi hf; have HM1 := Hi hm
 clear hC hf hm p0
 have HTK := Hi (take_any p mb l a c f w1 (HM1.out.at H.out.box id) (H.out.map.mod HM1.out fun _ _ => id) (by have := HB.out.n; omega) (HR.out.mod HM1.out fun _ _ => id) hc hl)
 go_wp2_with fail
 refine HTK.out.mono ?_
 clear HTK
 rintro e w2 (⟨k, hd, hk, rfl, hm2⟩ | ⟨x, B, g, c2, hd, rfl, hp2, hH2, hr2, hg2, hB2, hm2⟩)
 ·have HD := Hi hd
  have HM2 := Hi hm2
  clear hd hm2
  have e1 : ((k : Int) != 0) = true := by simp; omega
  go_wp2_with fail
  go_ret
  have hs : putS (arcOf l) f = (k, arcOf l) := by unfold putS; rw [HD.out]
  have hM : Mine.Mod (fun _ => False) w w2 := HM1.out.step HM2.out fun _ _ e => e
  exact ⟨mb, l, by rw [hs]; rfl, by rw [hs], H.out.mod0 hM, fun q hq => .inl hq, .inl rfl, hM.mono fun _ _ e => e.elim⟩
 ·have HD := Hi hd
  have HM2 := Hi hm2
  have HP2 := Hi hp2; have HH2 := Hi hH2; have HR2 := Hi hr2; have HG2 := Hi hg2; have HB2 := Hi hB2
  clear hd hm2 hp2 hH2 hr2 hg2 hB2
  have hfo := decA_ok HD.out
  have hok2 := HOK.out.put (by decide) hfo.1 ⟨hfo.2.1, hfo.2.2.1⟩
  have HOK2 : Hid (ArcOk 33558558 (arcOf (putA l x ⟨g, c2, f⟩))) := Hi (by rw [arcOf_put]; exact hok2.mono (by omega))
  have HBN := Hi (HOK2.out.bnds (by decide))
  have HSZ := Hi (arSize_any p (some B) (putA l x ⟨g, c2, f⟩) w2 HP2.out (.inr ⟨B, rfl, HH2.out⟩) HBN.out.sz (by have := HBN.out.n; omega) HBN.out.x)
  have HFO := Hi hfo
  clear hfo hok2
  go_wp2_with fail
  refine HSZ.out.mono ?_
  clear HSZ
  rintro e w3 ⟨rfl, hm3⟩
  have HM3 := Hi hm3
  clear hm3
  obtain ⟨s, hs⟩ : ∃ s, s = arSz (arcOf (putA l x ⟨g, c2, f⟩)) := ⟨_, rfl⟩
  rw [← hs]
  have HS : Hid (s = arSz (putA (arcOf l) x f)) := Hi (by rw [hs, arcOf_put])
  clear hs
  have HP3 := Hi (HM3.out.at HP2.out id)
  have hBp : Hid (∀ b, (b = p ∨ mb = some b) → b < w1.heap.size) := Hi fun b hb => by
   refine Nat.lt_of_lt_of_le ?_ HM1.out.size
   rcases hb with rfl | hb
   ·exact (Array.getElem?_eq_some_iff.1 H.out.box).1
   ·exact H.out.map.lt b hb
  by_cases hbig : 16777216 < s
  ·have e1 : decide ((16777216 : Int) < (s : Int)) = true := decide_eq_true (by omega)
   have pf0 := frozen_at (j := 0) HP3.out
   have p3 := cell_at (j := 0) HP3.out rfl
   go_wp2_with fail
   go_ret
   have hs : putS (arcOf l) f = (3, arcOf l) := by
    unfold putS; rw [HD.out]; simp only; rw [if_pos (by rw [← HS.out]; exact hbig)]
   have m3 : Mine.Mod (fun b => b = p) w3 (w3.setCell ⟨p, 0, none⟩ (.map mc)) := (Mod.refl (fun b => b = p) w3).setCell (p := ⟨p, 0, none⟩) (fun _ => rfl) _
   have hM : Mine.Mod (fun b => b = p ∨ mb = some b) w1 (w3.setCell ⟨p, 0, none⟩ (.map mc)) := (HM2.out.step HM3.out fun _ _ e => e.elim).step m3 fun _ _ e => .inl e
   have hMw : Mine.Mod (fun b => b = p ∨ mb = some b) w (w3.setCell ⟨p, 0, none⟩ (.map mc)) := (HM1.out.mono fun _ _ e => e.elim).step hM fun _ _ e => e
   refine ⟨mc, l, by rw [hs]; rfl, by rw [hs], ⟨heap_setCell_at _ HP3.out, HC.out.mod hM fun b hb e => ?_, EntOk.step H.out hMw⟩, fun q hq => .inl hq, .inr HF.out, hMw⟩
   have h1 := HF.out b hb
   rcases e with rfl | e
   ·have := (Array.getElem?_eq_some_iff.1 H.out.box).1; omega
   ·have := H.out.map.lt b e; omega
  ·have e1 : decide ((16777216 : Int) < (s : Int)) = false := decide_eq_false (by omega)
   go_wp2_with fail
   go_ret
   have hs : putS (arcOf l) f = (0, putA (arcOf l) x f) := by
    unfold putS; rw [HD.out]; simp only; rw [if_neg (by rw [← HS.out]; exact hbig)]
   have hM : Mine.Mod (fun b => b = p ∨ mb = some b) w1 w3 := HM2.out.step HM3.out fun _ _ e => e.elim
   have hMw : Mine.Mod (fun b => b = p ∨ mb = some b) w w3 := (HM1.out.mono fun _ _ e => e.elim).step hM fun _ _ e => e
   refine ⟨some B, putA l x ⟨g, c2, f⟩, by rw [hs]; rfl, by rw [hs, arcOf_put], ⟨HP3.out, .inr ⟨B, rfl, HH2.out.mod HM3.out id⟩, fun q hq => ?_⟩, fun q hq => ?_, ?_, hMw⟩
   ·rcases putA_mem q hq with rfl | hq
    ·exact ⟨HFO.out.2.1, HR2.out.mod HM3.out fun _ _ => id⟩
    ·exact EntOk.step H.out hMw q hq
   ·rcases putA_mem q hq with rfl | hq
    ·exact .inr (Nat.le_trans HM1.out.size HG2.out)
    ·exact .inl hq
   ·rcases HB2.out with h | h
    ·exact .inl h.symm
    ·exact .inr fun b hb => by cases hb; exact Nat.le_trans HM1.out.size h
end Go.Proofs.YtjoiaejbahdjkaaGreat
