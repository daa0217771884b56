/-
  A region that draws its order and comes to a panic: the operations that do not wait for the one that panics yield their values; whatever the order, it panics.
-/
import Derived.Test.YtjoiaejbahdjkaaGreatOrd
import Derived.Test.YtjoiaejbahdjkaaGreatFgB
import Derived.Deep.CutRange
import Derived.Defers
import Derived.Recover
import Derived.Laws.Pointers
namespace Go.Mine
open Go Go.RowKit
section
variable {P : Program} {l : List Oper} {S : World → Prop} {Q : Exit → Act → World → Prop} {ds : List Deferred}
def PanP (ds : List Deferred) (Q : Exit → Act → World → Prop) : Exit → Act → World → Prop
 | .panic ch, a, w => a.defers = ds ∧ ∀ a' : Act, a'.defers = ds → Q (.panic ch) a' w
 | _, _, _ => False
theorem PanP.imp (e : Exit) (a : Act) (w : World) (h : PanP ds Q e a w) : Q e a w := by
 cases e <;> first | exact (h : False).elim | exact h.2 a h.1
def PanStep (P : Program) (l : List Oper) (ds : List Deferred) (Q : Exit → Act → World → Prop) (y : Nat) (a : Act) (w : World) : Prop :=
 a.defers = ds ∧ ∃ o, l[y]? = some o ∧ Region.wanted o (yielded l.toArray a.tmps) = true ∧ o.wp P a w (fun _ _ => False) (PanP ds Q)
theorem put_defers (a : Act) (d : Option Tmp) (v : Value) : (a.put d v).defers = a.defers := by cases d <;> rfl
theorem pan_unput {o : Oper} (hs : ∀ cs b, o.op ≠ .select cs b) {a : Act} {w : World} {d : Option Tmp} {v : Value} (h1 : ∀ t, d = some t → t ∉ o.looksAt l.toArray)
 (h : o.wp P (a.put d v) w (fun _ _ => False) (PanP ds Q)) : o.wp P a w (fun _ _ => False) (PanP ds Q) := by
 unfold Oper.wp at *
 rw [execOp_put o hs a d v h1] at h
 generalize (execOp a.eval o).run P w = r at *
 have hp : ∀ (u : Option Tmp) (x : Value) (e : Exit) (w' : World), PanP ds Q e (a.put d v) w' → PanP ds Q e a w' := fun u x e w' hh => by
  cases e <;> first | exact hh | exact ⟨by rw [← put_defers a d v]; exact hh.1, hh.2⟩
 cases r with
 | halt x w1 => cases x <;> simp only [Oper.upon] at * <;> first | exact hp none default _ _ h | exact h
 | ok n w1 =>
   cases n <;> simp only [Oper.upon] at *
   case enter => exact h.mono fun e w2 hh => by cases e <;> first | exact hp none default _ _ hh | exact hh
   case row => exact h
theorem pan_back (hsel : Region.noSelect l.toArray = true) {y : Nat} {oy : Oper} (hy : l[y]? = some oy) : ∀ (r : List (Nat × Nat)) (a : Act) (w : World),
 (∀ x ∈ r, x.1 ≤ 1 ∧ ∃ ox, l[x.2]? = some ox ∧ ox.apart l.toArray oy = true) → wpOrd P l S (fun e a w => match e with | .normal => PanStep P l ds Q y a w | _ => False) r a w → PanStep P l ds Q y a w
 | [], a, w, _, h => h
 | x :: r, a, w, hr, h => by
   obtain ⟨hk, ox, hx, hap⟩ := hr x (by simp)
   obtain ⟨p1, p2, p3⟩ := Oper.apart_spec hap
   have sy := Region.noSelect_spec hsel y oy
   have sy' : ∀ cs b, oy.op ≠ .select cs b := fun cs b => sy cs b (by simpa using hy)
   have fin : ∀ v, PanStep P l ds Q y (a.put ox.dst v) w → PanStep P l ds Q y a w := by
    rintro v ⟨hd, o, ho, hw, h⟩
    rw [hy] at ho; cases ho
    rw [put_defers] at hd
    rw [wanted_put oy a ox.dst v p1] at hw
    exact ⟨hd, oy, hy, hw, pan_unput sy' p1 h⟩
   have h' : OrdStep P l S _ x (wpOrd P l S _ r) a w := h
   rcases h'.cases hx with ⟨v, _, h2⟩ | ⟨_, h2, _⟩
   ·exact fin v (pan_back hsel hy r _ _ (fun x hx => hr x (by simp [hx])) h2)
   ·omega
theorem ordStep_pure {Q' : Exit → Act → World → Prop} {x : Nat × Nat} {K : Act → World → Prop} {a : Act} {w : World} (hk : x.1 ≤ 1) (h : OrdStep P l S Q' x K a w) : wpOp P l.toArray Q x.2 K a w := by
 obtain ⟨o, ho, h⟩ := h
 unfold Go.wpOp
 have ho' : l.toArray[x.2]? = some o := by simpa using ho
 rw [ho']
 rcases h with ⟨hw, h⟩ | ⟨hw, h⟩
 ·simp only [hw]; exact h
 ·simp only [hw, if_true]
  left
  revert h
  obtain ⟨k, i⟩ := x
  rcases k with _ | _ | n <;> simp only
  ·rintro ⟨v, h1, h2⟩; unfold Oper.wp; rw [h1 w]; exact h2
  ·rintro ⟨hs, v, h1, h2⟩; unfold Oper.wp; rw [h1 w hs]; exact h2
  ·simp at hk
structure PanInv (l : List Oper) (y : Nat) (r : List (Nat × Nat)) (listed : Array Bool) : Prop where
 size : listed.size = l.length
 lt : ∀ x ∈ r, x.2 < l.length
 nodup : (r.map (·.2)).Nodup
 left : ∀ i, i < l.length → (listed.getD i true = false ↔ (i ∈ r.map (·.2) ∨ i = y ∨ y ∈ (closure l).getD i []))
 down : DownC l listed
 pairs : pairsOk l (closure l) r = true
 kinds : ∀ x ∈ r, x.1 ≤ 1
 ny : y ∉ r.map (·.2)
 dy : ∀ x ∈ r, y ∉ (closure l).getD x.2 []
theorem wpAny_of_pan (hsel : Region.noSelect l.toArray = true) (hcl : closureOk l (closure l) = true) (hback : edgesBack l = true) {y : Nat} {oy : Oper} (hy : l[y]? = some oy)
 (hap : ∀ (i : Nat), i < l.length → i ≠ y → y ∉ (closure l).getD i [] → ((closure l).getD y []).contains i = true ∨ ∃ o, l[i]? = some o ∧ o.apart l.toArray oy = true) :
 ∀ (m : Nat) (r : List (Nat × Nat)) (listed : Array Bool) (a : Act) (w : World), r.length < m → PanInv l y r listed →
 wpOrd P l S (fun e a w => match e with | .normal => PanStep P l ds Q y a w | _ => False) r a w → wpAny P .any l.toArray Q m listed a w
 | 0, r, listed, a, w, hm, inv, h => by omega
 | m + 1, r, listed, a, w, hm, inv, h => by
   have hylt : y < l.length := (List.getElem?_eq_some_iff.1 hy).1
   have hyl : listed.getD y true = false := (inv.left y hylt).2 (.inr (.inl rfl))
   have hyf : listed.getD y false = false := by rw [getD_bool (by rw [inv.size]; exact hylt) false true]; exact hyl
   refine ⟨fun h0 => ?_, fun i hi => ?_⟩
   ·exfalso
    obtain ⟨i, hi, hmin⟩ := exists_min ((List.range l.length).filter fun i => !(listed.getD i true)) (by
     intro e
     have : y ∈ (List.range l.length).filter fun i => !(listed.getD i true) := List.mem_filter.2 ⟨List.mem_range.2 hylt, by simpa using hyl⟩
     rw [e] at this; cases this)
    obtain ⟨hir, hif⟩ := List.mem_filter.1 hi
    have hlt := List.mem_range.1 hir
    have hif' : listed.getD i true = false := by simpa using hif
    have : i ∈ Region.ready .any l.toArray listed := by
     refine mem_ready.2 ⟨hif', l[i], by simp [hlt], fun e he hb => ?_⟩
     simp only [edgesBack, List.all_eq_true, List.mem_range] at hback
     have hb2 := hback i hlt
     rw [List.getElem?_eq_getElem hlt] at hb2
     simp only [List.all_eq_true, Bool.or_eq_true, Bool.not_eq_true', decide_eq_true_eq] at hb2
     have hlt2 : e.on < i := by
      rcases hb2 e (by simpa using he) with h | h
      ·rw [hb] at h; cases h
      ·exact h
     by_cases hl : listed.getD e.on true = true
     ·rw [getD_bool (by rw [inv.size]; omega) false true]; exact hl
     ·exfalso
      have := hmin e.on (List.mem_filter.2 ⟨List.mem_range.2 (by omega), by simpa using hl⟩)
      omega
    rw [h0] at this; cases this
   ·obtain ⟨h1, o, ho, hall⟩ := mem_ready.1 hi
    have hlt : i < l.length := by
     have := (Array.getElem?_eq_some_iff.1 ho).1; simpa using this
    have hol : l[i]? = some o := by simpa using ho
    have hcli := closure_listed hcl inv.down i o hlt hol hall
    rcases (inv.left i hlt).1 h1 with hir | rfl | hD
    ·obtain ⟨x, hx, rfl⟩ := List.mem_map.1 hir
     obtain ⟨pre, post, rfl⟩ := List.append_of_mem hx
     obtain ⟨hp1, hp2⟩ := pairsOk_app pre inv.pairs
     have hpre : ∀ z ∈ pre, okPair z.1 x.1 = true ∧ ∃ oz ox, l[z.2]? = some oz ∧ l[x.2]? = some ox ∧ oz.apart l.toArray ox = true := by
      intro z hz
      have hzx := hp2 z hz
      simp only [pairOk, Bool.or_eq_true, Bool.and_eq_true, List.contains_iff_mem] at hzx
      rcases hzx with hzx | ⟨h2, h3⟩
      ·exfalso
       have hl := hcli z.2 hzx
       have hzl := inv.lt z (by simp [hz])
       have := (inv.left z.2 hzl).2 (.inl (by simp; exact .inl ⟨z.1, hz⟩))
       rw [getD_bool (by rw [inv.size]; exact hzl) true false, hl] at this
       cases this
      ·refine ⟨h2, ?_⟩
       have hzl := inv.lt z (by simp [hz])
       rw [hol, List.getElem?_eq_getElem hzl] at h3
       simp only [Bool.and_eq_true] at h3
       exact ⟨l[z.2], o, by simp [hzl], hol, h3.1⟩
     refine wpOp_mono (fun a' w' h' => ?_) (ordStep_pure (inv.kinds x (by simp)) (wpOrd.front hsel pre hpre a w h))
     have hnd := inv.nodup
     simp only [List.map_append, List.map_cons] at hnd
     have hnd2 := (List.nodup_cons.1 (List.perm_middle.nodup_iff.1 hnd)).1
     have hxy : x.2 ≠ y := fun e => inv.ny (by rw [← e]; simp)
     refine wpAny_of_pan hsel hcl hback hy hap m _ _ _ _ (by simp at hm ⊢; omega) ⟨by simpa using inv.size, fun z hz => inv.lt z ?_, ?_, fun i hi => ?_, ?_, hp1, fun z hz => inv.kinds z ?_, fun hz => inv.ny ?_, fun z hz => inv.dy z ?_⟩ h'
     ·rcases List.mem_append.1 hz with h | h <;> simp [h]
     ·simp only [List.map_append]
      exact (List.nodup_cons.1 (List.perm_middle.nodup_iff.1 hnd)).2
     ·by_cases e : x.2 = i
      ·subst e
       constructor
       ·intro hh; simp [inv.size, hlt] at hh
       ·rintro (hh | hh | hh)
        ·simp only [List.map_append] at hh; exact absurd hh hnd2
        ·exact absurd hh hxy
        ·exact absurd hh (inv.dy x (by simp))
      ·rw [getD_set_ne true e, inv.left i hi]
       simp only [List.map_append, List.map_cons, List.mem_append, List.mem_cons]
       constructor
       ·rintro ((h | h | h) | h)
        ·exact .inl (.inl h)
        ·exact absurd h.symm e
        ·exact .inl (.inr h)
        ·exact .inr h
       ·rintro ((h | h) | h)
        ·exact .inl (.inl h)
        ·exact .inl (.inr (.inr h))
        ·exact .inr h
     ·intro k ok hk hok e he hb
      by_cases e1 : x.2 = k
      ·subst e1
       rw [hol] at hok; cases hok
       exact getD_set_true (hall e he hb)
      ·have hk' : listed.getD k false = true := by rwa [getD_set_ne false e1] at hk
       exact getD_set_true (inv.down k ok hk' hok e he hb)
     ·rcases List.mem_append.1 hz with h | h <;> simp [h]
     ·simp only [List.map_append, List.mem_append, List.map_cons, List.mem_cons] at hz ⊢
      rcases hz with h | h
      ·exact .inl h
      ·exact .inr (.inr h)
     ·rcases List.mem_append.1 hz with h | h <;> simp [h]
    ·have hr : ∀ x ∈ r, x.1 ≤ 1 ∧ ∃ ox, l[x.2]? = some ox ∧ ox.apart l.toArray oy = true := by
      intro x hx
      refine ⟨inv.kinds x hx, ?_⟩
      have hxl := inv.lt x hx
      rcases hap x.2 hxl (fun e => inv.ny (by rw [← e]; exact List.mem_map.2 ⟨x, hx, rfl⟩)) (inv.dy x hx) with hc | hc
      ·exfalso
       have hl := hcli x.2 (List.contains_iff_mem.1 hc)
       have := (inv.left x.2 hxl).2 (.inl (List.mem_map.2 ⟨x, hx, rfl⟩))
       rw [getD_bool (by rw [inv.size]; exact hxl) true false, hl] at this
       cases this
      ·exact hc
     obtain ⟨hd, o', ho', hw', hp⟩ := pan_back hsel hy r a w hr h
     rw [hol] at ho'; cases ho'
     unfold Go.wpOp
     rw [ho]
     simp only [hw', if_true]
     left
     have hp' : o.wp P a w (fun a' w' => wpAny P .any l.toArray Q m (listed.setIfInBounds i true) a' w') Q := by
      have h2 : o.wp P a w (fun a' w' => wpAny P .any l.toArray Q m (listed.setIfInBounds i true) a' w') (PanP ds Q) := Oper.wp_mono (fun _ _ h => h.elim) hp
      unfold Oper.wp at *
      generalize (execOp a.eval o).run P w = rr at *
      cases rr with
      | halt x w1 => cases x <;> simp only [Oper.upon] at * <;> first | exact PanP.imp _ _ _ h2 | exact h2
      | ok n w1 =>
        cases n <;> simp only [Oper.upon] at *
        case enter => exact h2.mono fun e w2 hh => by cases e <;> first | exact hh | exact PanP.imp _ _ _ hh | (obtain ⟨a', w', hh⟩ := hh; exact (hh : False).elim)
        case row => exact h2
     exact hp'
    ·exfalso
     have := hcli y hD
     rw [hyf] at this; cases this
def panOk (l : List Oper) (y : Nat) (ord : List (Nat × Nat)) : Bool :=
 Region.noSelect l.toArray && closureOk l (closure l) && edgesBack l && decide (y < l.length) && decide (ord.length < l.length) && ord.all (fun x => decide (x.2 < l.length) && decide (x.1 ≤ 1) && x.2 != y && !((closure l).getD x.2 []).contains y) &&
  decide ((ord.map (·.2)).Nodup) && (List.range l.length).all (fun i => (ord.map (·.2)).contains i || i == y || ((closure l).getD i []).contains y) && pairsOk l (closure l) ord &&
  (List.range l.length).all (fun i => i == y || ((closure l).getD i []).contains y || ((closure l).getD y []).contains i || match l[i]?, l[y]? with | some o, some oy => o.apart l.toArray oy | _, _ => false)
theorem wp_region_pan {id : Nat} {a : Act} {w : World} (S : World → Prop) (y : Nat) (ord : List (Nat × Nat)) (hm : P.follows .mixedOrders = true) (hB : panOk l y ord = true)
 (h : wpOrd P l S (fun e a' w' => match e with | .normal => PanStep P l a.defers Q y a' w' | _ => False) ord a w.drew) : (Code.region id l.toArray true).wp P Q a w := by
 simp only [panOk, Bool.and_eq_true, List.all_eq_true, decide_eq_true_eq, List.mem_range, Bool.or_eq_true, bne_iff_ne, beq_iff_eq, Bool.not_eq_true', List.contains_iff_mem] at hB
 obtain ⟨⟨⟨⟨⟨⟨⟨⟨⟨h1, h2⟩, h3⟩, h4⟩, hlen⟩, h5⟩, h6⟩, h7⟩, h8⟩, h9⟩ := hB
 refine wp_region_any hm ?_
 have hns : ∀ x ∈ ord, y ∉ (closure l).getD x.2 [] := fun x hx hh => by
  have := (h5 x hx).2
  rw [List.contains_eq_mem] at this
  simp at this
  exact this hh
 have := wpAny_of_pan (P := P) (S := S) (Q := Q) (ds := a.defers) h1 h2 h3 (y := y) (oy := l[y]) (by simp [h4]) (fun i hi hy hny => ?_) l.length ord (Array.replicate l.length false) a w.drew hlen
  ⟨by simp, fun x hx => (h5 x hx).1.1.1, h6, fun i hi => ?_, fun k o hk => ?_, h8, fun x hx => (h5 x hx).1.1.2, fun hh => by obtain ⟨x, hx, e⟩ := List.mem_map.1 hh; exact (h5 x hx).1.2 e, hns⟩ h
 ·simpa using this
 ·rcases h9 i hi with ((h | h) | h) | h
  ·exact absurd h hy
  ·exact absurd h hny
  ·exact .inl (List.contains_iff_mem.2 h)
  ·refine .inr ⟨l[i], by simp [hi], ?_⟩
   rw [List.getElem?_eq_getElem hi, List.getElem?_eq_getElem h4] at h
   exact h
 ·simp only [Array.getD_eq_getD_getElem?, Array.getElem?_replicate, hi, if_true, Option.getD_some, true_iff]
  rcases h7 i hi with (h | h) | h
  ·exact .inl h
  ·exact .inr (.inl h)
  ·exact .inr (.inr h)
 ·exfalso
  simp [Array.getD_eq_getD_getElem?, Array.getElem?_replicate] at hk
  split at hk <;> simp at hk
theorem pan_step {o : Oper} {y : Nat} {a : Act} {w : World} (ho : l[y]? = some o) (hd : a.defers = ds) (hw : Region.wanted o (yielded l.toArray a.tmps) = true)
 (h : o.wp P a w (fun _ _ => False) (PanP ds Q)) : PanStep P l ds Q y a w := ⟨hd, o, ho, hw, h⟩
end
end Go.Mine
/-
  colfile.read, walked.
-/
namespace Go.Proofs.YtjoiaejbahdjkaaGreat
open Go Go.RowKit Go.Mine
set_option linter.unusedVariables false
set_option maxHeartbeats 8000000
set_option maxRecDepth 100000
theorem read_any (a : Option Addr) (c : Nat) (l : List UInt8) (w : World) (hr : Rd w a (bts l)) (hc : l.length ≤ c) (hl : l.length < 2 ^ 40) :
 Calls Tryz.prog 107 #[.slice a l.length c] w (FileP l w) := by
 have HR := Hi hr
 clear hr
 go_enter Tryz.func107, Tryz.ntmps107
 go_wp2_with fail
 have HS1 : Hid (RS w ((w.alloc (.cells #[.string ⟨#[]⟩, .int .i64 0, .slice none 0 0] 86)).alloc (.cells #[.string ⟨#[]⟩, .int .i64 0, .int .i64 0, .int .i64 0, .int .i64 0, .slice none 0 0] 138))
  [boxI w.heap.size #[.string ⟨#[]⟩, .int .i64 0, .slice none 0 0] 86, boxI (w.heap.size + 1) #[.string ⟨#[]⟩, .int .i64 0, .int .i64 0, .int .i64 0, .int .i64 0, .slice none 0 0] 138]) := Hi (by
  have h0 : RS w w [] := ⟨Fam.nil (Nat.le_refl _), Mod.refl _ _⟩
  have h1 := h0.push (i' := boxI w.heap.size #[.string ⟨#[]⟩, .int .i64 0, .slice none 0 0] 86) ((Mod.refl _ w).alloc (.cells #[.string ⟨#[]⟩, .int .i64 0, .slice none 0 0] 86)) (heap_alloc_new w _) (fun b hb => Nat.le_of_eq (Eq.symm hb))
  have h2 := h1.push (i' := boxI (w.heap.size + 1) #[.string ⟨#[]⟩, .int .i64 0, .int .i64 0, .int .i64 0, .int .i64 0, .slice none 0 0] 138) ((Mod.refl _ _).alloc (.cells #[.string ⟨#[]⟩, .int .i64 0, .int .i64 0, .int .i64 0, .int .i64 0, .slice none 0 0] 138))
   (by have := heap_alloc_new (w.alloc (.cells #[.string ⟨#[]⟩, .int .i64 0, .slice none 0 0] 86)) (.cells #[.string ⟨#[]⟩, .int .i64 0, .int .i64 0, .int .i64 0, .int .i64 0, .slice none 0 0] 138); rw [show (w.alloc (.cells #[.string ⟨#[]⟩, .int .i64 0, .slice none 0 0] 86)).heap.size = w.heap.size + 1 by simp] at this; exact this) (fun b hb => Nat.le_of_eq (by rw [show b = w.heap.size + 1 from hb]; simp))
  exact h2)
 obtain ⟨B, hB⟩ : ∃ B, B = w.heap.size := ⟨_, rfl⟩
 rw [← hB] at HS1 ⊢
 have HB := Hi hB
 clear hB
 generalize (w.alloc (.cells #[.string ⟨#[]⟩, .int .i64 0, .slice none 0 0] 86)).alloc (.cells #[.string ⟨#[]⟩, .int .i64 0, .int .i64 0, .int .i64 0, .int .i64 0, .slice none 0 0] 138) = w1 at *
 refine (wholeF_any a c l w1 (HR.out.mod HS1.out.md fun _ _ => id) hc hl).mono ?_
 rintro e w2 ⟨(⟨h0, rfl⟩ | ⟨h0, rfl⟩), hm⟩
 rotate_left
 ·have HS2 := Hi (HS1.out.mod0 hm)
  clear hm HS1
  go_wp2_with fail
  exact ⟨rfl, .inl ⟨_, .inl ⟨h0, rfl⟩, rfl⟩, HS2.out.md⟩
 have HS2 := Hi (HS1.out.mod0 hm)
 have H0 := Hi h0
 clear hm HS1 h0
 have h14 : 14 ≤ l.length ∧ l.length ≤ 16777216 := by
  have h := H0.out
  unfold headF at h
  split at h
  ·cases h
  ·split at h
   ·cases h
   ·omega
 obtain ⟨h14, h16⟩ := h14
 obtain ⟨bb, bo, rfl, _⟩ := byte_cell HR.out (i := 0) (by omega)
 have hml : (midL l).length = l.length - 14 := by unfold midL; rw [List.length_take, List.length_drop]; omega
 have HMR : Hid (Rd w2 (some ⟨bb, bo + 10, none⟩) (bts (midL l))) := Hi (by
  have h1 := subA_part (w := w2) (a := some ⟨bb, bo, none⟩) (c := c) (from_ := 10) (n := l.length - 14) (HR.out.mod HS2.out.md fun _ _ => id) hc
  have h2 : subA (some ⟨bb, bo, none⟩) c 10 1 = some ⟨bb, bo + 10, none⟩ := by unfold subA; rw [if_neg (by omega)]; rfl
  rw [h2] at h1
  exact h1)
 have hk4 : ((l.length : Int) - 4).toNat = l.length - 4 := by omega
 go_wp2_with fail
 have hm4 : l.length - 4 - 10 = (midL l).length := by rw [hml]; omega
 rw [hm4]
 clear hm4 hk4
 obtain ⟨m, hmm⟩ : ∃ m, m = midL l := ⟨_, rfl⟩
 rw [← hmm] at HMR hml ⊢
 have HMM := Hi hmm
 clear hmm
 have hm40 : m.length ≤ 16777216 := by omega
 have hmc : m.length < c - 10 := by omega
 clear hml
 refine (newReader_any _ (c - 10) m w2 HMR.out (by omega) (by simp)).mono ?_
 rintro e w3 ⟨p, a1, c1, rfl, hrd, hp, hm3, hb1⟩
 have HS3 := Hi (HS2.out.push (i' := rdrI p a1 c1 m 0) hm3 hrd (fun b hb => by
  rcases hb with hb | ⟨_, hb⟩
  ·rw [hb]; exact hp
  ·exact hb1 b hb))
 have HMR3 := Hi (HMR.out.mod hm3 fun _ _ => id)
 clear hrd hp hm3 hb1 HS2 HMR
 go_wp2_with fail
 have HT := Hi (rdText_any p a1 c1 4096 m 0 0 w3 (HS3.out.get (k := 2) (by simp)) (by omega))
 obtain ⟨st, hst⟩ : ∃ st, st = stText 4096 m 0 0 := ⟨_, rfl⟩
 rw [← hst] at HT
 obtain ⟨nm, x0, f0⟩ := st
 simp only at HT
 have HST0 := Hi hst.symm
 clear hst
 refine HT.out.mono ?_
 rintro e w4 ⟨rfl, hr4, hm4⟩
 clear HT
 by_cases hf0 : f0 = 0
 rotate_left
 ·have HM4 := Hi (HS3.out.fam.base (Nat.le_refl _) HS3.out.md (i := rdrI p a1 c1 m 0) (by simp) (hm4.mono fun b _ h => .inl h))
  have HR4 := Hi hr4
  have hq : ((f0 : Int) == 0) = false := by simp; omega
  clear hr4 hm4
  go_wp2_with fail
  refine (rerr_any p _ _ _ _ _ (HR4.out.mod0 ((Mod.refl _ w4).alloc _)).heap).mono ?_
  rintro e w5 ⟨rfl, hw5⟩
  have HM5 : Hid (Mod (fun _ => False) w w5) := Hi (by rw [← hw5]; exact HM4.out.alloc _)
  clear hw5
  go_wp2_with fail
  refine (must_false _).mono ?_
  rintro e w9 ⟨rfl, hw9⟩
  have HM9 : Hid (Mod (fun _ => False) w w9) := Hi (by rw [← hw9]; exact HM5.out)
  clear hw9
  go_wp2_with fail
  exact ⟨rfl, .inl ⟨70, .inr ⟨H0.out, fun F hF hG => by have h := hF.name; rw [← HMM.out, HST0.out] at h; simp at h; exact absurd h.2.2 hf0, rfl⟩, rfl⟩, HM9.out⟩
 subst hf0
 have HS4 := Hi (HS3.out.set (k := 2) (i' := rdrI p a1 c1 m x0) (by simp) (hm4.mono fun b _ h => .inl h) hr4 (fun b hb => .inl hb))
 clear HS3 hr4 hm4
 go_wp2_with fail
 have HS5 : Hid (RS w (w4.alloc (.cells #[.string ⟨nm.toArray⟩, .int .i64 0, .int .i64 0, .int .i64 0, .int .i64 0, .slice none 0 0] 138))
  [boxI B #[.string ⟨#[]⟩, .int .i64 0, .slice none 0 0] 86, boxI (B + 1) #[.string ⟨#[]⟩, .int .i64 0, .int .i64 0, .int .i64 0, .int .i64 0, .slice none 0 0] 138, rdrI p a1 c1 m x0, boxI w4.heap.size #[.string ⟨nm.toArray⟩, .int .i64 0, .int .i64 0, .int .i64 0, .int .i64 0, .slice none 0 0] 138]) :=
  Hi (HS4.out.push ((Mod.refl _ w4).alloc _) (heap_alloc_new w4 _) (fun b hb => Nat.le_of_eq (Eq.symm hb)))
 obtain ⟨D, hD⟩ : ∃ D, D = w4.heap.size := ⟨_, rfl⟩
 rw [← hD] at HS5 ⊢
 clear hD HS4
 generalize w4.alloc (.cells #[.string ⟨nm.toArray⟩, .int .i64 0, .int .i64 0, .int .i64 0, .int .i64 0, .slice none 0 0] 138) = w5 at *
 refine (rerr_any p _ _ _ _ _ (HS5.out.get (k := 2) (by simp)).heap).mono ?_
 rintro e w6 ⟨rfl, hw6⟩
 obtain rfl : w5 = w6 := hw6
 go_wp2_with fail
 refine (must_true _).mono ?_
 rintro e w6 ⟨rfl, hw6⟩
 obtain rfl : w5 = w6 := hw6
 go_wp2_with fail
 -- the arity
 have HA := Hi (numF_any p a1 c1 64 m x0 w5 (HS5.out.get (k := 2) (by simp)) (by omega))
 obtain ⟨st, hst⟩ : ∃ st, st = stNum m x0 0 := ⟨_, rfl⟩
 rw [← hst] at HA
 obtain ⟨A, x1, f1⟩ := st
 simp only at HA
 have HST1 := Hi hst.symm
 clear hst
 refine HA.out.mono ?_
 clear HA
 rintro e w6 ⟨(⟨hf1, hA64, rfl, hr6⟩ | ⟨hbad, rfl⟩), hm6⟩
 rotate_left
 ·have HM6 := Hi (HS5.out.fam.base (Nat.le_refl _) HS5.out.md (i := rdrI p a1 c1 m x0) (by simp) (hm6.mono fun b _ h => .inl h))
  clear hm6
  go_wp2_with fail
  exact ⟨rfl, .inl ⟨70, .inr ⟨H0.out, fun F hF _ => by
   have h := hF.name; rw [← HMM.out, HST0.out] at h
   simp only [Prod.mk.injEq, and_true] at h
   have h2 := hF.ar; rw [← HMM.out, ← h.2, HST1.out] at h2
   simp only [Prod.mk.injEq] at h2
   have h3 := hF.arl
   rcases hbad with hb | hb
   ·exact hb h2.2.2
   ·omega, rfl⟩, rfl⟩, HM6.out⟩
 subst hf1
 have HS6 := Hi (HS5.out.set (k := 2) (i' := rdrI p a1 c1 m x1) (by simp) (hm6.mono fun b _ h => .inl h) hr6 (fun b hb => .inl hb))
 clear HS5 hr6 hm6
 have cx6 : w6.cell? ⟨D, 1, none⟩ = some (.int .i64 0) := cell_at (HS6.out.get (k := 3) (by simp)) rfl
 have fz6 : w6.frozen? ⟨D, 1, none⟩ = false := frozen_at (HS6.out.get (k := 3) (by simp))
 go_wp2_with fail
 have HS7 : Hid (RS w (w6.setCell ⟨D, 1, none⟩ (.int .i64 A))
  [boxI B #[.string ⟨#[]⟩, .int .i64 0, .slice none 0 0] 86, boxI (B + 1) #[.string ⟨#[]⟩, .int .i64 0, .int .i64 0, .int .i64 0, .int .i64 0, .slice none 0 0] 138, rdrI p a1 c1 m x1, boxI D #[.string ⟨nm.toArray⟩, .int .i64 A, .int .i64 0, .int .i64 0, .int .i64 0, .slice none 0 0] 138]) :=
  Hi (HS6.out.cell (k := 3) (by simp) rfl 1 _)
 clear HS6 fz6 cx6
 generalize w6.setCell ⟨D, 1, none⟩ (.int .i64 A) = w7 at *
 -- the rows
 have HA := Hi (numF_any p a1 c1 65536 m x1 w7 (HS7.out.get (k := 2) (by simp)) (by omega))
 obtain ⟨st, hst⟩ : ∃ st, st = stNum m x1 0 := ⟨_, rfl⟩
 rw [← hst] at HA
 obtain ⟨n, x2, f2⟩ := st
 simp only at HA
 have HST2 := Hi hst.symm
 clear hst
 refine HA.out.mono ?_
 clear HA
 rintro e w8 ⟨(⟨hf2, hn16, rfl, hr8⟩ | ⟨hbad, rfl⟩), hm8⟩
 rotate_left
 ·have HM8 := Hi (HS7.out.fam.base (Nat.le_refl _) HS7.out.md (i := rdrI p a1 c1 m x1) (by simp) (hm8.mono fun b _ h => .inl h))
  clear hm8
  go_wp2_with fail
  exact ⟨rfl, .inl ⟨70, .inr ⟨H0.out, fun F hF _ => by
   have h := hF.name; rw [← HMM.out, HST0.out] at h
   simp only [Prod.mk.injEq, and_true] at h
   have h2 := hF.ar; rw [← HMM.out, ← h.2, HST1.out] at h2
   simp only [Prod.mk.injEq, and_true] at h2
   have h4 := hF.nr; rw [← HMM.out, ← h2.2, HST2.out] at h4
   simp only [Prod.mk.injEq] at h4
   have h3 := hF.nrl
   rcases hbad with hb | hb
   ·exact hb h4.2.2
   ·omega, rfl⟩, rfl⟩, HM8.out⟩
 subst hf2
 have HS8 := Hi (HS7.out.set (k := 2) (i' := rdrI p a1 c1 m x2) (by simp) (hm8.mono fun b _ h => .inl h) hr8 (fun b hb => .inl hb))
 clear HS7 hr8 hm8
 have cx8 : w8.cell? ⟨D, 2, none⟩ = some (.int .i64 0) := cell_at (HS8.out.get (k := 3) (by simp)) rfl
 have fz8 : w8.frozen? ⟨D, 2, none⟩ = false := frozen_at (HS8.out.get (k := 3) (by simp))
 go_wp2_with fail
 have HS9 : Hid (RS w (w8.setCell ⟨D, 2, none⟩ (.int .i64 n))
  [boxI B #[.string ⟨#[]⟩, .int .i64 0, .slice none 0 0] 86, boxI (B + 1) #[.string ⟨#[]⟩, .int .i64 0, .int .i64 0, .int .i64 0, .int .i64 0, .slice none 0 0] 138, rdrI p a1 c1 m x2, boxI D #[.string ⟨nm.toArray⟩, .int .i64 A, .int .i64 n, .int .i64 0, .int .i64 0, .slice none 0 0] 138]) :=
  Hi (HS8.out.cell (k := 3) (by simp) rfl 2 _)
 clear HS8 fz8 cx8
 generalize w8.setCell ⟨D, 2, none⟩ (.int .i64 n) = w9 at *
 -- the dictionary
 refine (rat_any p _ _ x2 _ _ (HS9.out.get (k := 2) (by simp)).heap).mono ?_
 rintro e w10 ⟨rfl, hw10⟩
 obtain rfl : w9 = w10 := hw10
 have hx2 : x2 ≤ m.length := (HS9.out.get (k := 2) (by simp)).le
 have hcx : ¬ (c - 10 = x2) := by omega
 go_wp2_with fail
 have hdl : (m.drop x2).length = m.length - x2 := by simp
 have HD2 : Hid (Rd w9 (some ⟨bb, bo + 10 + x2, none⟩) (bts (m.drop x2))) := Hi (by
  have h1 := subA_part (w := w9) (a := some ⟨bb, bo, none⟩) (c := c) (from_ := 10 + x2) (n := m.length - x2) (HR.out.mod HS9.out.md fun _ _ => id) hc
  have h2 : subA (some ⟨bb, bo, none⟩) c (10 + x2) 1 = some ⟨bb, bo + 10 + x2, none⟩ := by unfold subA; rw [if_neg (by omega), Nat.mul_one, Nat.add_assoc bo 10 x2, Option.map_some]; simp [Addr.add]
  have h3 : (l.drop (10 + x2)).take (m.length - x2) = m.drop x2 := by
   have h4 : m.length = l.length - 14 := by rw [HMM.out]; unfold midL; rw [List.length_take, List.length_drop]; omega
   rw [h4, HMM.out]
   unfold midL
   rw [List.drop_take, List.drop_drop]
  rw [h2, h3] at h1
  exact h1)
 have HSR := Hi (symRead_any (some ⟨bb, bo + 10 + x2, none⟩) (c - 10 - x2) (m.drop x2) w9 HD2.out (by rw [hdl]; omega) (by simp))
 rw [hdl] at HSR
 clear hdl HD2
 obtain ⟨st, hst⟩ : ∃ st, st = readL (m.drop x2) := ⟨_, rfl⟩
 rw [← hst] at HSR
 obtain ⟨ts, d, f3⟩ := st
 simp only at HSR
 have HST3 := Hi hst.symm
 clear hst
 refine HSR.out.mono ?_
 rintro e w10 ⟨v, rfl, hres⟩
 clear HSR hcx
 by_cases hf3 : f3 = 0
 rotate_left
 ·have HM10 := Hi (HS9.out.mod0 hres.mod).md
  have hq : ((f3 : Int) == 0) = false := by simp; omega
  clear hres
  go_wp2_with fail
  refine (must_false _).mono ?_
  rintro e w9 ⟨rfl, hw9⟩
  have HM9 : Hid (Mod (fun _ => False) w w9) := Hi (by rw [← hw9]; exact HM10.out)
  clear hw9
  go_wp2_with fail
  exact ⟨rfl, .inl ⟨70, .inr ⟨H0.out, fun F hF hG => by have h := hF.name; rw [← HMM.out, HST0.out] at h; simp only [Prod.mk.injEq, and_true] at h; have h2 := hF.ar; rw [← HMM.out, ← h.2, HST1.out] at h2; simp only [Prod.mk.injEq, and_true] at h2; have h4 := hF.nr; rw [← HMM.out, ← h2.2, HST2.out] at h4; simp only [Prod.mk.injEq, and_true] at h4; have h5 := hF.dict; rw [← HMM.out, ← h4.2, HST3.out] at h5; simp only [Prod.mk.injEq] at h5; exact hf3 h5.2.2, rfl⟩, rfl⟩, HM9.out⟩
 subst hf3
 obtain ⟨ta, tc, rfl, hta, htb⟩ := hres.val
 have HS10 := Hi (HS9.out.push (i' := rdI ta (sts ts)) hres.mod hta (fun b hb => htb b hb.2))
 clear HS9 hres hta htb
 go_wp2_with fail
 refine (must_true _).mono ?_
 rintro e w11 ⟨rfl, hw11⟩
 obtain rfl : w10 = w11 := hw11
 go_wp2_with fail
 have hd1 : x2 + d ≤ m.length := by
  have h := (read_form HST3.out).2.2.1
  rw [List.length_drop] at h
  omega
 have hm0 : 0 < m.length := by
  have h := (text_form HST0.out (by omega)).1
  rw [List.drop_zero, List.append_assoc] at h
  rw [h]
  exact List.length_pos_iff.2 (lebl_ne _ _)
 obtain ⟨ab, ao, rfl, _⟩ := byte_cell (HS10.out.get (k := 2) (by simp)).rd (i := 0) hm0
 refine (raw_ok p ⟨ab, ao, none⟩ c1 d m x2 w10 (HS10.out.get (k := 2) (by simp)) hd1).mono ?_
 rintro e w11 ⟨g, gc, rfl, _, hr11, hm11, _⟩
 have HS11 := Hi (HS10.out.set (k := 2) (i' := rdrI p (some ⟨ab, ao, none⟩) c1 m (x2 + d)) (by simp) (hm11.mono fun b _ h => .inl h) hr11 (fun b hb => .inl hb))
 clear HS10 hr11 hm11
 have cx2 : w11.cell? ⟨D, 2, none⟩ = some (.int .i64 n) := cell_at (HS11.out.get (k := 3) (by simp)) rfl
 have cx3 : w11.cell? ⟨D, 3, none⟩ = some (.int .i64 0) := cell_at (HS11.out.get (k := 3) (by simp)) rfl
 have fz3 : w11.frozen? ⟨D, 3, none⟩ = false := frozen_at (HS11.out.get (k := 3) (by simp))
 have cx4 : w11.cell? ⟨D, 4, none⟩ = some (.int .i64 0) := cell_at (HS11.out.get (k := 3) (by simp)) rfl
 have fz4 : w11.frozen? ⟨D, 4, none⟩ = false := frozen_at (HS11.out.get (k := 3) (by simp))
 have HS12 : Hid (RS w ((w11.setCell ⟨D, 3, none⟩ (.int .i64 ts.length)).setCell ⟨D, 4, none⟩ (.int .i64 d))
  [boxI B #[.string ⟨#[]⟩, .int .i64 0, .slice none 0 0] 86, boxI (B + 1) #[.string ⟨#[]⟩, .int .i64 0, .int .i64 0, .int .i64 0, .int .i64 0, .slice none 0 0] 138, rdrI p (some ⟨ab, ao, none⟩) c1 m (x2 + d), boxI D #[.string ⟨nm.toArray⟩, .int .i64 A, .int .i64 n, .int .i64 ts.length, .int .i64 d, .slice none 0 0] 138, rdI ta (sts ts)]) :=
  Hi ((HS11.out.cell (k := 3) (by simp) rfl 3 _).cell (k := 3) (by simp) rfl 4 _)
 clear HS11
 have HTA := Hi (HS12.out.get (k := 4) (by simp))
 go_upto_region 12 with fail
 clear cx2 cx3 cx4 fz3 fz4
 generalize (w11.setCell ⟨D, 3, none⟩ (.int .i64 ts.length)).setCell ⟨D, 4, none⟩ (.int .i64 d) = w12 at *
 have cx2 : w12.cell? ⟨D, 2, none⟩ = some (.int .i64 n) := cell_at (HS12.out.get (k := 3) (by simp)) rfl
 go_cut [7] from 57 to 65 (fun v wx => v = .slice ta ts.length tc ∧ (0 < n ∨ ts = []) ∧ Hid (RS w wx [boxI B #[.string ⟨#[]⟩, .int .i64 0, .slice none 0 0] 86, boxI (B + 1) #[.string ⟨#[]⟩, .int .i64 0, .int .i64 0, .int .i64 0, .int .i64 0, .slice none 0 0] 138, rdrI p (some ⟨ab, ao, none⟩) c1 m (x2 + d), boxI D #[.string ⟨nm.toArray⟩, .int .i64 A, .int .i64 n, .int .i64 ts.length, .int .i64 d, .slice none 0 0] 138, rdI ta (sts ts)]))
 case first =>
  by_cases hn0 : 0 < n
  ·have hg : decide (0 < (n : Int)) = true := by simp; omega
   go_wp2_with fail
   refine (must_true _).mono ?_
   rintro e w13 ⟨rfl, hw13⟩
   subst hw13
   go_wp2_with fail
   go_meet
   case rel => exact ⟨rfl, .inl hn0, HS12⟩
  ·obtain rfl : n = 0 := by omega
   by_cases hts : ts = []
   ·have hz : ((ts.length : Int) == 0) = true := by rw [hts]; rfl
    have HTS := Hi hts
    clear hts
    generalize ts.length = T at *
    go_wp2_with fail
    refine (must_true _).mono ?_
    rintro e w13 ⟨rfl, hw13⟩
    subst hw13
    go_wp2_with fail
    go_meet
    case rel => exact ⟨rfl, .inr HTS.out, HS12⟩
   ·have hz : ((ts.length : Int) == 0) = false := by
     have : ts.length ≠ 0 := fun h => hts (List.eq_nil_of_length_eq_zero h)
     simp only [beq_eq_false_iff_ne, ne_eq]
     omega
    go_wp2_with fail
    refine (must_false _).mono ?_
    rintro e w9 ⟨rfl, hw9⟩
    have HM9 : Hid (Mod (fun _ => False) w w9) := Hi (by rw [← hw9]; exact HS12.out.md)
    clear hw9
    go_wp2_with fail
    exact ⟨rfl, .inl ⟨70, .inr ⟨H0.out, fun F hF hG => by have h := parse_det HST0.out HST1.out HST2.out HST3.out (F := F) (by rw [HMM.out]; exact hF); exact hG.full.elim (fun h2 => by rw [h.2.2.2.2.1] at h2; omega) (fun h2 => hts (by rw [← h2]; exact h.2.2.2.2.2.2.1.symm)), rfl⟩, rfl⟩, HM9.out⟩
 case rest =>
  obtain ⟨rfl, hfull, hsc⟩ := hcut
  have HFU := Hi hfull
  clear HS12 cx2 hfull
  have cx1 : wc.cell? ⟨D, 1, none⟩ = some (.int .i64 A) := cell_at (hsc.out.get (k := 3) (by simp)) rfl
  have hmk := mkLL A (by omega) wc
  go_wp2_with fail
  have HSL : Hid (RS w (wc.alloc (.cells (Array.replicate A (.slice none 0 0)) 162)) (itsG [boxI B #[.string ⟨#[]⟩, .int .i64 0, .slice none 0 0] 86, boxI (B + 1) #[.string ⟨#[]⟩, .int .i64 0, .int .i64 0, .int .i64 0, .int .i64 0, .slice none 0 0] 138, rdrI p (some ⟨ab, ao, none⟩) c1 m (x2 + d), boxI D #[.string ⟨nm.toArray⟩, .int .i64 A, .int .i64 n, .int .i64 ts.length, .int .i64 d, .slice none 0 0] 138, rdI ta (sts ts), ownI 162 1 (some ⟨wc.heap.size, 0, none⟩) A A (colV A []), ownI 3 1 none 0 0 (ns [])] [])) := Hi (by
   have h1 := hsc.out.push (i' := ownI 162 1 (some ⟨wc.heap.size, 0, none⟩) A A (colV A [])) ((Mod.refl _ wc).alloc (.cells (Array.replicate A (.slice none 0 0)) 162)) (by
    have h2 := Mine.Own.made wc 162 1 (Array.replicate A (.slice none 0 0)) A A (Nat.le_refl _) (by unfold maxLen; omega) (by simp)
    have e : (Array.replicate A (Value.slice none 0 0)).toList.take (A * 1) = colV A [] := by rw [colV_zero]; simp
    rw [e] at h2
    exact h2) (fun b hb => Nat.le_of_eq (by simpa [ownI, blk] using hb))
   exact h1.push (i' := ownI 3 1 none 0 0 (ns [])) (Mod.refl _ _) (Mine.Own.nil _ _ _) (fun b hb => by simp [ownI] at hb))
  obtain ⟨C, hC⟩ : ∃ C, C = wc.heap.size := ⟨_, rfl⟩
  rw [← hC] at HSL ⊢
  clear hC hsc cx1 hmk
  generalize wc.alloc (.cells (Array.replicate A (.slice none 0 0)) 162) = w14 at *
  go_loopw [11, 12, 13, 14, 71] (fun _ _ _ _ iv wr => ∃ (i : Nat) (qs : List (Sl × List Nat)) (ps : List Nat) (pa : Option Addr) (pc at_ : Nat), iv = .int .i64 i ∧ i ≤ A ∧ Hid (qs.length = i) ∧ Hid (ps.length = i) ∧ Hid (colsGo m n A (x2 + d) [] [] = colsGo m n (A - i) at_ (qs.map (·.2)) ps) ∧ Hid (∀ q ∈ qs, q.1.n = q.2.length ∧ q.2.length = n ∧ U32 q.2) ∧
   Hid (RS w wr (itsG [boxI B #[.string ⟨#[]⟩, .int .i64 0, .slice none 0 0] 86, boxI (B + 1) #[.string ⟨#[]⟩, .int .i64 0, .int .i64 0, .int .i64 0, .int .i64 0, .slice none 0 0] 138, rdrI p (some ⟨ab, ao, none⟩) c1 m at_, boxI D #[.string ⟨nm.toArray⟩, .int .i64 A, .int .i64 n, .int .i64 ts.length, .int .i64 d, .slice pa i pc] 138, rdI ta (sts ts), ownI 162 1 (some ⟨C, 0, none⟩) A A (colV A qs), ownI 3 1 pa i pc (ns ps)] qs))) (fun _ _ _ _ iv _ => A - (intOf iv).toNat)
  case atStart => exact ⟨0, [], [], none, 0, x2 + d, rfl, Nat.zero_le _, rfl, rfl, rfl, Hi (by simp), HSL⟩
  case round =>
   clear HSL
   obtain ⟨i, qs, ps, pa, pc, at_, rfl, hi, hQL, hPL, hCG, hQ, hS⟩ := hrel
   by_cases hlt : i < A
   ·obtain ⟨j, hj⟩ : ∃ j, A - i = j + 1 := ⟨A - i - 1, by omega⟩
    rw [hj] at hCG
    have HJ := Hi hj
    clear hj
    have HRD := Hi (hS.out.getq (k := 2) (by simp))
    have HNU := Hi (numF_any p (some ⟨ab, ao, none⟩) c1 16777216 m at_ wr HRD.out (by omega))
    rename World => w15
    obtain ⟨st, hst⟩ : ∃ st, st = stNum m at_ 0 := ⟨_, rfl⟩
    rw [← hst] at HNU
    obtain ⟨k, x, f⟩ := st
    simp only at HNU
    have HSTN := Hi hst.symm
    clear hst
    go_wp2_with fail
    refine HNU.out.mono ?_
    rintro e w16 ⟨(⟨hf, hk16, rfl, hr16⟩ | ⟨hbad, rfl⟩), hm16⟩
    rotate_left
    ·have HM16 := Hi (hS.out.setq (k := 2) (i' := pin p) (by simp) (hm16.mono fun b _ h => .inl h) (Nat.lt_of_lt_of_le (Array.getElem?_eq_some_iff.1 HRD.out.heap).1 hm16.size) (fun b hb => .inl (.inl hb))).md
     clear hm16
     go_wp2_with fail
     exact ⟨rfl, .inl ⟨70, .inr ⟨H0.out, fun F hF hG => by
      obtain ⟨_, _, e1, _, e2, e3, _, e4⟩ := parse_det HST0.out HST1.out HST2.out HST3.out (F := F) (by rw [HMM.out]; exact hF)
      have h := hF.cols
      rw [← HMM.out, e1, e2, e3, e4, hCG.out, colsGo_err (text_num1 HSTN.out hbad)] at h
      exact absurd h (by simp), rfl⟩, rfl⟩, HM16.out⟩
    subst hf
    have HTX := Hi (text_num2 (most := 16777216) HSTN.out hk16)
    have HS16 := Hi (hS.out.setq (k := 2) (i' := rdrI p (some ⟨ab, ao, none⟩) c1 m x) (by simp) (hm16.mono fun b _ h => .inl h) hr16 (fun b hb => .inl hb))
    clear hS hm16 HNU HRD
    have hx16 := hr16.le
    have HR16 := Hi hr16
    clear hr16
    by_cases hkl : m.length - x < k
    ·have HTE : Hid ((stText 16777216 m at_ 0).2.2 ≠ 0) := Hi (by rw [HTX.out, if_pos hkl]; simp)
     have HRB := Hi (raw_bad p (some ⟨ab, ao, none⟩) c1 k m x w16 HR16.out hkl (by omega))
     have hkl2 := Hi hkl
     clear hkl HTX
     go_wp2_with fail
     refine HRB.out.mono ?_
     rintro e w17 ⟨rfl, hr17, hm17⟩
     have HM17 := Hi (HS16.out.setq (k := 2) (i' := pin p) (by simp) (hm17.mono fun b _ h => .inl h) (Nat.lt_of_lt_of_le (Array.getElem?_eq_some_iff.1 HR16.out.heap).1 hm17.size) (fun b hb => .inl (.inl hb))).md
     have HH17 := Hi hr17.heap
     clear hr17 hm17 HRB
     go_wp2_with fail
     refine (rerr_any p _ _ _ _ _ HH17.out).mono ?_
     rintro e w18 ⟨rfl, hw18⟩
     obtain rfl : w17 = w18 := hw18
     go_wp2_with fail
     refine (must_false _).mono ?_
     rintro e w9 ⟨rfl, hw9⟩
     have HM9 : Hid (Mod (fun _ => False) w w9) := Hi (by rw [← hw9]; exact HM17.out)
     clear hw9
     go_wp2_with fail
     exact ⟨rfl, .inl ⟨70, .inr ⟨H0.out, fun F hF hG => by have h := parse_det HST0.out HST1.out HST2.out HST3.out (F := F) (by rw [HMM.out]; exact hF); have h2 := hF.cols; rw [← HMM.out, h.2.2.1, h.2.2.2.2.1, h.2.2.2.2.2.1, h.2.2.2.2.2.2.2, hCG.out, colsGo_err HTE.out] at h2; exact absurd h2 (by simp), rfl⟩, rfl⟩, HM9.out⟩
    ·rw [if_neg hkl] at HTX
     have hlk : ((m.drop x).take k).length = k := by rw [List.length_take, List.length_drop]; omega
     have HRO := Hi (raw_ok p ⟨ab, ao, none⟩ c1 k m x w16 HR16.out (by omega))
     obtain ⟨pg, hpg⟩ : ∃ pg, pg = (m.drop x).take k := ⟨_, rfl⟩
     rw [← hpg] at HTX hlk HRO
     have HLK := Hi hlk
     clear hpg hkl hlk
     go_wp2_with fail
     refine HRO.out.mono ?_
     rintro e w17 ⟨g, gc, rfl, hO, hr17, hm17, _⟩
     have hgc : k ≤ gc := by
      rcases hO.2 with ⟨h, _⟩ | ⟨_, _, _, _, h, _⟩
      ·cases h
      ·exact h
     have HPG := Hi hO.rd
     have HS17 := Hi (HS16.out.setq (k := 2) (i' := rdrI p (some ⟨ab, ao, none⟩) c1 m (x + k)) (by simp) (hm17.mono fun b _ h => .inl h) hr17 (fun b hb => .inl hb))
     have HH17 := Hi hr17.heap
     clear hO hr17 hm17 HRO HS16 HR16
     go_wp2_with fail
     refine (rerr_any p _ _ _ _ _ HH17.out).mono ?_
     rintro e w18 ⟨rfl, hw18⟩
     obtain rfl : w17 = w18 := hw18
     go_wp2_with fail
     refine (must_true _).mono ?_
     rintro e w18 ⟨rfl, hw18⟩
     obtain rfl : w17 = w18 := hw18
     have cx2 : w17.cell? ⟨D, 2, none⟩ = some (.int .i64 n) := cell_at (HS17.out.getq (k := 3) (by simp)) rfl
     clear HH17
     have HDC := Hi (decP_any (some ⟨g, 0, none⟩) gc n pg w17 HPG.out (by rw [HLK.out]; omega) (by rw [HLK.out]; exact hgc) (by omega))
     rw [HLK.out] at HDC
     cases hdec : decP n pg with
     | none =>
       have HDN := Hi hdec
       have HDC2 : Hid (Calls Tryz.prog 130 #[.slice (some ⟨g, 0, none⟩) k gc, .int .i64 n] w17 fun e w' => ∃ v, e = .returned (.tuple #[v, .int .i64 50]) ∧ Mod (fun _ => False) w17 w') := Hi (HDC.out.mono fun e w' h => by
        obtain ⟨v, h1, h2, _⟩ := h
        rw [hdec] at h1
        exact ⟨v, h1, h2⟩)
       clear hdec HDC
       go_wp2_with fail
       refine HDC2.out.mono ?_
       rintro e w18 ⟨v, rfl, hm18⟩
       have HM18 := Hi (HS17.out.mod0 hm18).md
       clear hm18 HDC2
       go_wp2_with fail
       refine (must_false _).mono ?_
       rintro e w9 ⟨rfl, hw9⟩
       have HM9 : Hid (Mod (fun _ => False) w w9) := Hi (by rw [← hw9]; exact HM18.out)
       clear hw9
       go_wp2_with fail
       exact ⟨rfl, .inl ⟨70, .inr ⟨H0.out, fun F hF hG => by have h := parse_det HST0.out HST1.out HST2.out HST3.out (F := F) (by rw [HMM.out]; exact hF); have h2 := hF.cols; rw [← HMM.out, h.2.2.1, h.2.2.2.2.1, h.2.2.2.2.2.1, h.2.2.2.2.2.2.2, hCG.out, colsGo_dec HTX.out HDN.out] at h2; exact absurd h2 (by simp), rfl⟩, rfl⟩, HM9.out⟩
     | some cl =>
       obtain ⟨hcu, hcn, _⟩ := decP_spec hdec
       have HDN := Hi hdec
       have HDC2 : Hid (Calls Tryz.prog 130 #[.slice (some ⟨g, 0, none⟩) k gc, .int .i64 n] w17 fun e w' => ∃ a' c', e = .returned (.tuple #[.slice a' n c', .int .i64 0]) ∧ Mod (fun _ => False) w17 w' ∧ Rd w' a' (u32s cl) ∧ ∀ b, blk a' = some b → w17.heap.size ≤ b) := Hi (HDC.out.mono fun e w' h => by
        obtain ⟨v, h1, h2, h3⟩ := h
        obtain ⟨a', c', rfl, h4, h5⟩ := h3 cl hdec
        rw [hdec, hcn] at h1
        exact ⟨a', c', h1, h2, h4, fun b hb => (h5 b hb).1⟩)
       have HCU := Hi hcu
       have HCN := Hi hcn
       clear hdec HDC hcu hcn
       go_wp2_with fail
       refine HDC2.out.mono ?_
       rintro e w18 ⟨la, lc, rfl, hm18, hlr, hlb⟩
       have HS18 := Hi (HS17.out.pushq (s := ⟨la, n, lc⟩) (c := cl) hm18 hlr hlb)
       clear hm18 hlr hlb HDC2 HS17 cx2 HPG
       go_wp2_with fail
       refine (must_true _).mono ?_
       rintro e w19 ⟨rfl, hw19⟩
       obtain rfl : w18 = w19 := hw19
       have hown5 := HS18.out.getq (k := 5) (by simp)
       have cxC : w18.cell? ⟨C, i, none⟩ = some (.slice none 0 0) := by
        have h1 := colV_get (A := A) (qs := qs) (by rw [hQL.out]; exact hlt)
        rw [hQL.out] at h1
        obtain ⟨b3, o3, e3, h3⟩ := (show Mine.Own w18 162 1 (some ⟨C, 0, none⟩) A A (colV A qs) from hown5).rd i _ h1
        cases e3
        simpa using h3
       have fzC : w18.frozen? ⟨C, i, none⟩ = false := (show Mine.Own w18 162 1 (some ⟨C, 0, none⟩) A A (colV A qs) from hown5).frozen rfl
       have HS19 : Hid (RS w (w18.setCell ⟨C, i, none⟩ (.slice la n lc)) (itsG [boxI B #[.string ⟨#[]⟩, .int .i64 0, .slice none 0 0] 86, boxI (B + 1) #[.string ⟨#[]⟩, .int .i64 0, .int .i64 0, .int .i64 0, .int .i64 0, .slice none 0 0] 138, rdrI p (some ⟨ab, ao, none⟩) c1 m (x + k), boxI D #[.string ⟨nm.toArray⟩, .int .i64 A, .int .i64 n, .int .i64 ts.length, .int .i64 d, .slice pa i pc] 138, rdI ta (sts ts), ownI 162 1 (some ⟨C, 0, none⟩) A A (colV A (qs ++ [(⟨la, n, lc⟩, cl)])), ownI 3 1 pa i pc (ns ps)] (qs ++ [(⟨la, n, lc⟩, cl)]))) := Hi (by
        have h1 := HS18.out.setq (k := 5) (i' := ownI 162 1 (some ⟨C, 0, none⟩) A A (colV A (qs ++ [(⟨la, n, lc⟩, cl)]))) (w' := w18.setCell ⟨C, i, none⟩ (.slice la n lc)) (by simp)
         ((Mod.refl (fun b => b = C) w18).setCell (p := ⟨C, i, none⟩) (fun _ => rfl) _ |>.mono fun b _ h => by rw [h]; rfl)
         (by
          have h2 := (show Mine.Own w18 162 1 (some ⟨C, 0, none⟩) A A (colV A qs) from hown5).store i (.slice la n lc)
          have h3 := colV_set (A := A) (qs := qs) (by rw [hQL.out]; exact hlt) ⟨la, n, lc⟩ cl
          rw [hQL.out] at h3
          rw [← h3]
          exact h2)
         (fun b hb => .inl hb)
        exact h1)
       clear HS18 hown5
       have cx5 : (w18.setCell ⟨C, i, none⟩ (.slice la n lc)).cell? ⟨D, 5, none⟩ = some (.slice pa i pc) := cell_at (HS19.out.getq (k := 3) (by simp)) rfl
       have hown6 : Mine.Own (w18.setCell ⟨C, i, none⟩ (.slice la n lc)) 3 1 pa i pc (ns ps) := HS19.out.getq (k := 6) (by simp)
       have HO6 := Hi hown6
       clear hown6
       go_wp2_with (at_builtin; refine wpL_appendN (us := [.int .i64 (k : Nat)]) rfl (.tmp 97) (.tmp 100) 97 rfl tiI rfl HO6.out rfl rfl rfl (by show (i + 1) * 8 ≤ _; omega) (by show i + 1 ≤ _; unfold maxLen; omega) ?_; intro a4 c4 w20 hO4 hG4 _
                    have HS20 : Hid (RS w w20 (itsG [boxI B #[.string ⟨#[]⟩, .int .i64 0, .slice none 0 0] 86, boxI (B + 1) #[.string ⟨#[]⟩, .int .i64 0, .int .i64 0, .int .i64 0, .int .i64 0, .slice none 0 0] 138, rdrI p (some ⟨ab, ao, none⟩) c1 m (x + k), boxI D #[.string ⟨nm.toArray⟩, .int .i64 A, .int .i64 n, .int .i64 ts.length, .int .i64 d, .slice pa i pc] 138, rdI ta (sts ts), ownI 162 1 (some ⟨C, 0, none⟩) A A (colV A (qs ++ [(⟨la, n, lc⟩, cl)])), ownI 3 1 a4 (i + 1) c4 (ns (ps ++ [k]))] (qs ++ [(⟨la, n, lc⟩, cl)]))) := Hi (HS19.out.setq (k := 6) (i' := ownI 3 1 a4 (i + 1) c4 (ns (ps ++ [k]))) (by simp) hG4.mod (by rw [ns_snoc]; exact hO4) (fun b hb => by
                     have hb2 : blk a4 = some b := hb
                     rcases hG4.pos with e | ⟨b3, e, hb3⟩
                     ·rw [e] at hb2; exact .inl hb2
                     ·rw [e] at hb2; cases hb2; exact .inr hb3))
                    clear hO4 hG4 HS19 cx5 HO6
                    have cx5 : w20.cell? ⟨D, 5, none⟩ = some (.slice pa i pc) := cell_at (HS20.out.getq (k := 3) (by simp)) rfl
                    have fz5 : w20.frozen? ⟨D, 5, none⟩ = false := frozen_at (HS20.out.getq (k := 3) (by simp)))
       go_roundw
       case rel =>
        refine ⟨i + 1, qs ++ [(Sl.mk la n lc, cl)], ps ++ [k], a4, c4, x + k, by go_num, hlt, Hi (by rw [List.length_append, hQL.out]; rfl), Hi (by rw [List.length_append, hPL.out]; rfl), Hi ?_, Hi (fun q hq => ?_), Hi (HS20.out.cellq (k := 3) (by simp) rfl 5 (.slice a4 (i + 1) c4))⟩
        ·rw [hCG.out, colsGo_on HTX.out HDN.out, HLK.out, show A - (i + 1) = j by have := HJ.out; omega]
         simp
        ·rcases List.mem_append.1 hq with h | h
         ·exact hQ.out q h
         ·rw [List.mem_singleton] at h
          rw [h]
          exact ⟨HCN.out.symm, HCN.out, HCU.out⟩
       case measure => simp [intOf]; omega
   ·obtain rfl : i = A := by omega
    have HCS : Hid (colsGo m n i (x2 + d) [] [] = some (qs.map (·.2), ps, at_)) := Hi (by rw [hCG.out, Nat.sub_self]; rfl)
    have HRD := Hi (hS.out.getq (k := 2) (by simp))
    rename World => w15
    have HEN := Hi (end_any p (some ⟨ab, ao, none⟩) c1 m at_ w15 HRD.out)
    clear HRD
    have HPA : Hid (Parse m ⟨nm, x0, i, x1, n, x2, ts, d, qs.map (·.2), ps, at_⟩) := Hi ⟨HST0.out, HST1.out, hA64, HST2.out, hn16, HST3.out, HCS.out⟩
    clear HST0 HST1 HST2 HST3 hCG HCS
    by_cases hfin : at_ = m.length
    rotate_left
    ·rw [if_neg hfin] at HEN
     have HFI := Hi hfin
     clear hfin
     go_wp2_with fail
     refine HEN.out.mono ?_
     rintro e w16 ⟨rfl, hm16⟩
     have HM16 := Hi (hS.out.mod0 hm16).md
     clear hm16
     go_wp2_with fail
     refine (must_false _).mono ?_
     rintro e w9 ⟨rfl, hw9⟩
     have HM9 : Hid (Mod (fun _ => False) w w9) := Hi (by rw [← hw9]; exact HM16.out)
     clear hw9
     go_wp2_with fail
     exact ⟨rfl, .inl ⟨70, .inr ⟨H0.out, fun F hF hG => by rw [← HMM.out] at hF hG; have h := hF.same HPA.out; rw [h] at hG; exact HFI.out hG.fin, rfl⟩, rfl⟩, HM9.out⟩
    rw [if_pos hfin] at HEN
    have HFI := Hi hfin
    clear hfin
    go_wp2_with fail
    refine HEN.out.mono ?_
    rintro e w16 ⟨rfl, hm16⟩
    have HS16 := Hi (hS.out.mod0 hm16)
    clear hm16 hS HEN
    go_wp2_with fail
    refine (must_true _).mono ?_
    rintro e w17 ⟨rfl, hw17⟩
    obtain rfl : w16 = w17 := hw17
    have hown5 : Mine.Own w16 162 1 (some ⟨C, 0, none⟩) i i (colV i qs) := HS16.out.getq (k := 5) (by simp)
    rw [colV_full hQL.out] at hown5
    have HLL := Hi (heads_llr hown5.rd (fun q hq => ⟨(hQ.out q hq).1, HS16.out.ls q hq⟩))
    have HTX : Hid (Rd w16 ta (sts ts)) := Hi (HS16.out.getq (k := 4) (by simp))
    have hcl : (qs.map (·.2)).length = i := by rw [List.length_map, hQL.out]
    have HLD := Hi (fun W (mW : Mod (fun _ => False) w16 W) => laid_any (some ⟨C, 0, none⟩) ta i tc (qs.map fun q => q.1.val) (qs.map (·.2)) ts n W (HLL.out.mod0 mW) (fun c hc => by
     obtain ⟨q, hq, rfl⟩ := List.mem_map.1 hc; exact (hQ.out q hq).2.1) (fun c hc => by
     obtain ⟨q, hq, rfl⟩ := List.mem_map.1 hc; exact (hQ.out q hq).2.2) (HTX.out.mod mW fun _ _ => id) (by rw [hcl]; exact hA64) hn16 HPA.out.facts.tl)
    rw [hcl] at HLD
    clear hown5 hcl
    have d0 : w16.cell? ⟨D, 0, none⟩ = some (.string ⟨nm.toArray⟩) := cell_at (HS16.out.getq (k := 3) (by simp)) rfl
    have d1 : w16.cell? ⟨D, 1, none⟩ = some (.int .i64 i) := cell_at (HS16.out.getq (k := 3) (by simp)) rfl
    have d2 : w16.cell? ⟨D, 2, none⟩ = some (.int .i64 n) := cell_at (HS16.out.getq (k := 3) (by simp)) rfl
    have d3 : w16.cell? ⟨D, 3, none⟩ = some (.int .i64 ts.length) := cell_at (HS16.out.getq (k := 3) (by simp)) rfl
    have d4 : w16.cell? ⟨D, 4, none⟩ = some (.int .i64 d) := cell_at (HS16.out.getq (k := 3) (by simp)) rfl
    have d5 : w16.cell? ⟨D, 5, none⟩ = some (.slice pa i pc) := cell_at (HS16.out.getq (k := 3) (by simp)) rfl
    generalize hcs : qs.map (·.2) = cs at *
    by_cases hok : LaidOk ts.length cs n
    ·have HOK := Hi hok
     have HLD2 : Hid (∀ W, Mod (fun _ => False) w16 W → Calls Tryz.prog 131 #[.slice (some ⟨C, 0, none⟩) i i, .slice ta ts.length tc, .int .i64 n] W fun e w' => ∃ a c hs, e = .returned (.slice a n c) ∧ LL (fun b => W.heap.size ≤ b) W w' 81 a c hs ((rowsF ts cs n).map sts)) := Hi fun W mW => (HLD.out W mW).mono fun e w' h => by
      rcases h.1 with ⟨_, a, c, hs, h1, h2⟩ | ⟨h1, _⟩
      ·exact ⟨a, c, hs, h1, h2⟩
      ·exact absurd hok h1
     clear HLD hok
     go_wp2_with fail
     refine wp_region_ord (fun w' => (w'.cell? ⟨D, 0, none⟩ = some (.string ⟨nm.toArray⟩) ∧ w'.cell? ⟨D, 1, none⟩ = some (.int .i64 i) ∧ w'.cell? ⟨D, 2, none⟩ = some (.int .i64 n)) ∧ w'.cell? ⟨D, 3, none⟩ = some (.int .i64 ts.length) ∧ w'.cell? ⟨D, 4, none⟩ = some (.int .i64 d) ∧ w'.cell? ⟨D, 5, none⟩ = some (.slice pa i pc)) [(0, 0), (1, 1), (0, 2), (1, 3), (0, 4), (0, 5), (0, 6), (1, 7), (1, 10), (2, 8), (0, 9), (2, 11), (3, 12)] (by kernel_rfl) (by kernel_rfl) ?_
     go_wp2_with (first
      |(refine ord_pure rfl rfl rfl (fun K hK => ?_); go_big_quiet_op; refine hK _ ?_; clear hK K)
      |(refine ord_held rfl rfl rfl (⟨⟨d0, d1, d2⟩, d3, d4, d5⟩) (fun K hK => ?_); apply Exists.intro; refine ⟨fun w' hs => ?_, hK _ ?_⟩; (revert hs; dsimp only; (try simp only [and_imp]); intros; go_simp; rfl); clear hK K)
      |(refine ord_keep rfl rfl (⟨⟨d0, d1, d2⟩, d3, d4, d5⟩) (fun K hK => ?_))
      |(refine ord_drop rfl rfl (fun K hK => ?_))
      |(refine ord_nil ?_))
     refine (HLD2.out _ (Mod.refl _ w16).drew).mono ?_
     rintro e w17 ⟨ra, rc, rhs, rfl, hLR⟩
     have hm17 : Mod (fun _ => False) w16 w17 := ((Mod.refl _ w16).drew).step hLR.md fun _ _ e => e
     have HLR := Hi hLR
     have HS17 := Hi (HS16.out.mod0 hm17)
     have e0 := hm17.cell d0 id; have e1 := hm17.cell d1 id; have e2 := hm17.cell d2 id; have e3 := hm17.cell d3 id; have e4 := hm17.cell d4 id; have e5 := hm17.cell d5 id
     refine hK _ _ ⟨⟨e0, e1, e2⟩, e3, e4, e5⟩ ?_
     clear hK K
     have hb0 : w17.heap[B]? = some (.cells #[.string ⟨#[]⟩, .int .i64 0, .slice none 0 0] 86 (0, 0)) := HS17.out.getq (k := 0) (by simp)
     have b00 := cell_at (j := 0) hb0 rfl; have b01 := cell_at (j := 1) hb0 rfl; have b02 := cell_at (j := 2) hb0 rfl
     have f00 := frozen_at (j := 0) hb0; have f01 := frozen_at (j := 1) hb0; have f02 := frozen_at (j := 2) hb0
     have HS18 := Hi (((HS17.out.cellq (k := 0) (by simp) rfl 0 (.string ⟨nm.toArray⟩)).cellq (k := 0) (by simp) rfl 1 (.int .i64 i)).cellq (k := 0) (by simp) rfl 2 (.slice ra n rc))
     have HMB := Hi ((((Mod.refl (fun b => b = B) w17).setCell (p := ⟨B, 0, none⟩) (fun _ => rfl) (.string ⟨nm.toArray⟩)).setCell (p := ⟨B, 1, none⟩) (fun _ => rfl) (.int .i64 i)).setCell (p := ⟨B, 2, none⟩) (fun _ => rfl) (.slice ra n rc))
     clear hb0
     have hBl : B + 1 < w16.heap.size := (Array.getElem?_eq_some_iff.1 (show w16.heap[B + 1]? = some _ from HS16.out.getq (k := 1) (by simp))).1
     have HBL := Hi hBl
     have HMW := Hi (HS16.out.md.drew)
     clear hBl hm17 hLR HS16 d0 d1 d2 d3 d4 d5
     go_wp2_with (first
      |(refine ord_pure rfl rfl rfl (fun K hK => ?_); go_big_quiet_op; refine hK _ ?_; clear hK K)
      |(refine ord_held rfl rfl rfl (⟨⟨e0, e1, e2⟩, e3, e4, e5⟩) (fun K hK => ?_); apply Exists.intro; refine ⟨fun w' hs => ?_, hK _ ?_⟩; (revert hs; dsimp only; (try simp only [and_imp]); intros; go_simp; rfl); clear hK K)
      |(refine ord_keep rfl rfl (⟨⟨e0, e1, e2⟩, e3, e4, e5⟩) (fun K hK => ?_))
      |(refine ord_drop rfl rfl (fun K hK => ?_))
      |(refine ord_nil ?_))
     have hb3 := HS18.out.getq (k := 3) (by simp)
     refine hK _ _ ⟨⟨cell_at (j := 0) hb3 rfl, cell_at (j := 1) hb3 rfl, cell_at (j := 2) hb3 rfl⟩, cell_at (j := 3) hb3 rfl, cell_at (j := 4) hb3 rfl, cell_at (j := 5) hb3 rfl⟩ ?_
     clear hK K hb3 e0 e1 e2 e3 e4 e5 b00 b01 b02 f00 f01 f02
     generalize ((w17.setCell ⟨B, 0, none⟩ (.string ⟨nm.toArray⟩)).setCell ⟨B, 1, none⟩ (.int .i64 i)).setCell ⟨B, 2, none⟩ (.slice ra n rc) = w18 at *
     have hb1 : w18.heap[B + 1]? = some (.cells #[.string ⟨#[]⟩, .int .i64 0, .int .i64 0, .int .i64 0, .int .i64 0, .slice none 0 0] 138 (0, 0)) := HS18.out.getq (k := 1) (by simp)
     have b10 := cell_at (j := 0) hb1 rfl; have b11 := cell_at (j := 1) hb1 rfl; have b12 := cell_at (j := 2) hb1 rfl; have b13 := cell_at (j := 3) hb1 rfl; have b14 := cell_at (j := 4) hb1 rfl; have b15 := cell_at (j := 5) hb1 rfl
     have f10 := frozen_at (j := 0) hb1; have f11 := frozen_at (j := 1) hb1; have f12 := frozen_at (j := 2) hb1; have f13 := frozen_at (j := 3) hb1; have f14 := frozen_at (j := 4) hb1; have f15 := frozen_at (j := 5) hb1
     have HS19 := Hi ((((((HS18.out.cellq (k := 1) (by simp) rfl 0 (.string ⟨nm.toArray⟩)).cellq (k := 1) (by simp) rfl 1 (.int .i64 i)).cellq (k := 1) (by simp) rfl 2 (.int .i64 n)).cellq (k := 1) (by simp) rfl 3 (.int .i64 ts.length)).cellq (k := 1) (by simp) rfl 4 (.int .i64 d)).cellq (k := 1) (by simp) rfl 5 (.slice pa i pc))
     have HMC := Hi (((((((Mod.refl (fun b => b = B + 1) w18).setCell (p := ⟨B + 1, 0, none⟩) (fun _ => rfl) (.string ⟨nm.toArray⟩)).setCell (p := ⟨B + 1, 1, none⟩) (fun _ => rfl) (.int .i64 i)).setCell (p := ⟨B + 1, 2, none⟩) (fun _ => rfl) (.int .i64 n)).setCell (p := ⟨B + 1, 3, none⟩) (fun _ => rfl) (.int .i64 ts.length)).setCell (p := ⟨B + 1, 4, none⟩) (fun _ => rfl) (.int .i64 d)).setCell (p := ⟨B + 1, 5, none⟩) (fun _ => rfl) (.slice pa i pc))
     clear hb1 HS18
     go_wp2_with (first
      |(refine ord_pure rfl rfl rfl (fun K hK => ?_); go_big_quiet_op; refine hK _ ?_; clear hK K)
      |(refine ord_held rfl rfl rfl (trivial) (fun K hK => ?_); apply Exists.intro; refine ⟨fun w' hs => ?_, hK _ ?_⟩; (revert hs; dsimp only; (try simp only [and_imp]); intros; go_simp; rfl); clear hK K)
      |(refine ord_keep rfl rfl (trivial) (fun K hK => ?_))
      |(refine ord_drop rfl rfl (fun K hK => ?_))
      |(refine ord_nil ?_))
     generalize (((((w18.setCell ⟨B + 1, 0, none⟩ (.string ⟨nm.toArray⟩)).setCell ⟨B + 1, 1, none⟩ (.int .i64 i)).setCell ⟨B + 1, 2, none⟩ (.int .i64 n)).setCell ⟨B + 1, 3, none⟩ (.int .i64 ts.length)).setCell ⟨B + 1, 4, none⟩ (.int .i64 d)).setCell ⟨B + 1, 5, none⟩ (.slice pa i pc) = w19 at *
     have hr0 : w19.heap[B]? = some (.cells #[.string ⟨nm.toArray⟩, .int .i64 i, .slice ra n rc] 86 (0, 0)) := HS19.out.getq (k := 0) (by simp)
     have hr1 : w19.heap[B + 1]? = some (.cells #[.string ⟨nm.toArray⟩, .int .i64 i, .int .i64 n, .int .i64 ts.length, .int .i64 d, .slice pa i pc] 138 (0, 0)) := HS19.out.getq (k := 1) (by simp)
     have q0 := cell_at (j := 0) hr0 rfl; have q1 := cell_at (j := 1) hr0 rfl; have q2 := cell_at (j := 2) hr0 rfl
     have p0 := cell_at (j := 0) hr1 rfl; have p1 := cell_at (j := 1) hr1 rfl; have p2 := cell_at (j := 2) hr1 rfl; have p3 := cell_at (j := 3) hr1 rfl; have p4 := cell_at (j := 4) hr1 rfl; have p5 := cell_at (j := 5) hr1 rfl
     have HPG : Mine.Own w19 3 1 pa i pc (ns ps) := HS19.out.getq (k := 6) (by simp)
     have hfine : Fine m ⟨nm, x0, i, x1, n, x2, ts, d, cs, ps, at_⟩ := ⟨HFU.out, HFI.out, HOK.out⟩
     have hlast : FileP l w (.returned (.tuple #[.agg #[.string ⟨nm.toArray⟩, .int .i64 i, .slice ra n rc], .agg #[.string ⟨nm.toArray⟩, .int .i64 i, .int .i64 n, .int .i64 ts.length, .int .i64 d, .slice pa i pc]])) w19 :=
      ⟨.inr ⟨⟨nm, x0, i, x1, n, x2, ts, d, cs, ps, at_⟩, ra, rc, pa, pc, ⟨H0.out, by rw [← HMM.out]; exact HPA.out, by rw [← HMM.out]; exact hfine⟩, rfl,
       ⟨rhs, HLR.out.close HMW.out ((HMB.out.mono (fun b _ h => Or.inl h)).trans (HMC.out.mono (fun b _ h => Or.inr h)) : Mod (fun b => b = B ∨ b = B + 1) w17 w19) (fun b hb => hb) (fun b hb => by
        have h1 := HB.out
        have h2 := HBL.out
        have h3 : w16.drew.heap.size = w16.heap.size := rfl
        rcases hb with rfl | rfl <;> omega)⟩, HPG.rd, fun b hb => HS19.out.loq (k := 6) (by simp) b hb⟩, HS19.out.md⟩
     refine bodyPost_ret (v := .tuple #[.agg #[.string ⟨nm.toArray⟩, .int .i64 i, .slice ra n rc], .agg #[.string ⟨nm.toArray⟩, .int .i64 i, .int .i64 n, .int .i64 ts.length, .int .i64 d, .slice pa i pc]]) ?_ rfl hlast
     clear hlast
     simp [results, Tryz.results107, go_sem, q0, q1, q2, p0, p1, p2, p3, p4, p5]
    ·have HOK := Hi hok
     have HLD2 : Hid (∀ W, Mod (fun _ => False) w16 W → Calls Tryz.prog 131 #[.slice (some ⟨C, 0, none⟩) i i, .slice ta ts.length tc, .int .i64 n] W fun e w' => e = .panicked (faultE 70) ∧ Mod (fun _ => False) W w') := Hi fun W mW => (HLD.out W mW).mono fun e w' h => by
      rcases h.1 with ⟨h1, _⟩ | ⟨_, h1⟩
      ·exact absurd h1 hok
      ·exact ⟨h1, h.2⟩
     clear HLD hok
     go_wp2_with fail
     refine wp_region_pan (fun w' => (w'.cell? ⟨D, 0, none⟩ = some (.string ⟨nm.toArray⟩) ∧ w'.cell? ⟨D, 1, none⟩ = some (.int .i64 i) ∧ w'.cell? ⟨D, 2, none⟩ = some (.int .i64 n)) ∧ w'.cell? ⟨D, 3, none⟩ = some (.int .i64 ts.length) ∧ w'.cell? ⟨D, 4, none⟩ = some (.int .i64 d) ∧ w'.cell? ⟨D, 5, none⟩ = some (.slice pa i pc)) 8 [(0, 0), (1, 1), (0, 2), (1, 3), (0, 4), (0, 5), (0, 6), (1, 7), (1, 10)] (by kernel_rfl) (by kernel_rfl) ?_
     go_wp2_with (first
      |(refine ord_pure rfl rfl rfl (fun K hK => ?_); go_big_quiet_op; refine hK _ ?_; clear hK K)
      |(refine ord_skip rfl rfl ?_; simp only [Act.put, List.setIfInBounds_toArray, List.set_cons_zero, List.set_cons_succ])
      |(refine ord_held rfl rfl rfl (⟨⟨d0, d1, d2⟩, d3, d4, d5⟩) (fun K hK => ?_); apply Exists.intro; refine ⟨fun w' hs => ?_, hK _ ?_⟩; (revert hs; dsimp only; (try simp only [and_imp]); intros; go_simp; rfl); clear hK K)
      |(refine ord_keep rfl rfl (⟨⟨d0, d1, d2⟩, d3, d4, d5⟩) (fun K hK => ?_))
      |(refine ord_drop rfl rfl (fun K hK => ?_))
      |(refine ord_nil ?_))
     refine pan_step rfl rfl rfl ?_
     go_simp
     refine (HLD2.out _ (Mod.refl _ _).drew).mono ?_
     rintro e w17 ⟨rfl, hM⟩
     exact ⟨rfl, fun a' ha => ⟨ha, .inl ⟨70, .inr ⟨H0.out, fun F hF hG => by
      rw [← HMM.out] at hF hG
      have h := hF.same HPA.out
      rw [h] at hG
      exact HOK.out hG.ok, rfl⟩, rfl⟩, (HS16.out.md.drew).step hM fun _ _ e => e⟩⟩
end Go.Proofs.YtjoiaejbahdjkaaGreat
/-
  colfile.guarded: what is thrown is caught.
-/
namespace Go.Proofs.YtjoiaejbahdjkaaGreat
open Go Go.RowKit Go.Mine
set_option linter.unusedVariables false
set_option maxHeartbeats 4000000
set_option maxRecDepth 100000
theorem famCell {L : Nat} {w : World} {is : List It} {B : Nat} {vs : Array Value} {t : TypeId} (h : Fam L w is) {k : Nat} (hk : k < is.length) (hi : is[k] = boxI B vs t) (j : Nat) (v : Value) : Fam L (w.setCell ⟨B, j, none⟩ v) (is.set k (boxI B (vs.setIfInBounds j v) t)) := by
 have hP := h.at_ _ (List.getElem_mem hk)
 rw [hi] at hP
 exact h.set hk (by rw [hi]; exact (Mod.refl (fun b => b = B) w).setCell (p := ⟨B, j, none⟩) (fun _ => rfl) _) (heap_setCell_at v hP) (fun b hb => .inl (by rw [hi]; exact hb))
theorem catchF_idle (p q r : Addr) (w : World) :
 CallsD Tryz.prog 106 #[.pointer (some p), .pointer (some q), .pointer (some r)] .returning w fun e u' w' => e = .returned (.tuple #[]) ∧ u' = .returning ∧ w' = w := by
 refine callsD_of_wpS Tryz.func106 rfl fun c₀ cs hu => ?_
 apply wpS_seq
 apply wpS_region
 simp [wpOpsS, go_sem, recoverD, hu, Tryz.ntmps106, Exit.thenS]
 refine wpS_of_wp ?_
 simp only [Array.replicate_succ, Array.replicate_zero, List.push_toArray, List.append_toArray, List.nil_append, List.cons_append, List.setIfInBounds_toArray, List.set_cons_succ, List.set_cons_zero]
 go_wp2
 cases c₀
 simp_all [bodyPostS, results, Tryz.results106]
theorem catchF_wrong (p q r c : Nat) (w : World) (hF : Fam 0 w [boxI p #[.string ⟨#[]⟩, .int .i64 0, .slice none 0 0] 86, boxI q #[.string ⟨#[]⟩, .int .i64 0, .int .i64 0, .int .i64 0, .int .i64 0, .slice none 0 0] 138, boxI r #[.int .i64 0] 27]) :
 CallsD Tryz.prog 106 #[.pointer (some ⟨p, 0, none⟩), .pointer (some ⟨q, 0, none⟩), .pointer (some ⟨r, 0, none⟩)] (.panicking (faultE c)) w fun e u' w' => e = .returned (.tuple #[]) ∧ u' = .panicking [{ v := .iface 152 (.agg #[.int .i64 c]), recovered := true }] ∧
  Mod (fun b => b = p ∨ b = q ∨ b = r) w w' ∧ Fam 0 w' [boxI p #[.string ⟨#[]⟩, .int .i64 0, .slice none 0 0] 86, boxI q #[.string ⟨#[]⟩, .int .i64 0, .int .i64 0, .int .i64 0, .int .i64 0, .slice none 0 0] 138, boxI r #[.int .i64 c] 27] := by
 have hta : ∀ w, (Instr.typeAssert (.iface 152 (.agg #[.int .i64 c])) 20 152 true).run Tryz.prog w = .ok (.tuple #[.agg #[.int .i64 c], .bool true]) w := fun _ => by kernel_rfl
 have HF := Hi (hF.push (i := boxI w.heap.size #[.int .i64 c] 152) ((Mod.refl _ w).alloc (.cells #[.int .i64 c] 152)) (heap_alloc_new w _) (fun b hb => Nat.le_of_eq (Eq.symm hb)))
 clear hF
 unfold faultE
 refine callsD_of_wpS Tryz.func106 rfl fun c₀ cs hu => ?_
 apply wpS_seq
 apply wpS_region
 simp [wpOpsS, go_sem, recoverD, hu, Tryz.ntmps106, Exit.thenS]
 refine wpS_of_wp ?_
 simp only [Array.replicate_succ, Array.replicate_zero, List.push_toArray, List.append_toArray, List.nil_append, List.cons_append, List.setIfInBounds_toArray, List.set_cons_succ, List.set_cons_zero]
 go_wp2_with fail
 have HM := Hi ((Mod.refl (fun b => b = p ∨ b = q ∨ b = r) w).alloc (.cells #[.int .i64 c] 152))
 obtain ⟨D, hD⟩ : ∃ D, D = w.heap.size := ⟨_, rfl⟩
 rw [← hD] at HF ⊢
 clear hD hta
 generalize w.alloc (.cells #[.int .i64 c] 152) = w1 at *
 refine wp_region_ord (fun w' => w'.cell? ⟨D, 0, none⟩ = some (.int .i64 c)) [(0, 0), (0, 1), (0, 2), (1, 3), (2, 4), (2, 5), (3, 6)] (by kernel_rfl) (by kernel_rfl) ?_
 have hd1 : w1.heap[D]? = some (.cells #[.int .i64 c] 152 (0, 0)) := HF.out.at_ _ (List.getElem_mem (n := 3) (by simp))
 have s1 : w1.drew.cell? ⟨D, 0, none⟩ = some (.int .i64 c) := cell_at hd1 rfl
 have HD := Hi (HF.out.mod0 (w' := w1.drew) ((Mod.refl _ w1).drew))
 have HMD := Hi (HM.out.drew)
 clear hd1 HF HM
 generalize w1.drew = w2 at *
 have hp : w2.heap[p]? = some (.cells #[.string ⟨#[]⟩, .int .i64 0, .slice none 0 0] 86 (0, 0)) := HD.out.at_ _ (List.getElem_mem (n := 0) (by simp))
 have pc0 := cell_at (j := 0) hp rfl; have pf0 := frozen_at (j := 0) hp; have pc1 := cell_at (j := 1) hp rfl; have pf1 := frozen_at (j := 1) hp; have pc2 := cell_at (j := 2) hp rfl; have pf2 := frozen_at (j := 2) hp
 clear hp
 go_wp2_with (first
  |(refine ord_pure rfl rfl rfl (fun K hK => ?_); go_big_quiet_op; refine hK _ ?_; clear hK K)
  |(refine ord_held rfl rfl rfl (s1) (fun K hK => ?_); apply Exists.intro; refine ⟨fun w' hs => ?_, hK _ ?_⟩; (revert hs; dsimp only; (try simp only [and_imp]); intros; go_simp; rfl); clear hK K)
  |(refine ord_keep rfl rfl (s1) (fun K hK => ?_))
  |(refine ord_drop rfl rfl (fun K hK => ?_))
  |(refine ord_nil ?_))
 have HE : Hid (Fam 0 ((((w2).setCell ⟨p, 0, none⟩ (.string ⟨#[]⟩)).setCell ⟨p, 1, none⟩ (.int .i64 0)).setCell ⟨p, 2, none⟩ (.slice none 0 0)) [boxI p #[.string ⟨#[]⟩, .int .i64 0, .slice none 0 0] 86, boxI q #[.string ⟨#[]⟩, .int .i64 0, .int .i64 0, .int .i64 0, .int .i64 0, .slice none 0 0] 138, boxI r #[.int .i64 0] 27, boxI D #[.int .i64 c] 152]) := Hi (famCell (famCell (famCell HD.out (k := 0) (by simp) rfl 0 (.string ⟨#[]⟩)) (k := 0) (by simp) rfl 1 (.int .i64 0)) (k := 0) (by simp) rfl 2 (.slice none 0 0))
 have HME := Hi ((((HMD.out).setCell (p := ⟨p, 0, none⟩) (fun _ => .inl rfl) (.string ⟨#[]⟩)).setCell (p := ⟨p, 1, none⟩) (fun _ => .inl rfl) (.int .i64 0)).setCell (p := ⟨p, 2, none⟩) (fun _ => .inl rfl) (.slice none 0 0))
 clear pc0 pf0 pc1 pf1 pc2 pf2 s1 HD HMD
 generalize (((w2).setCell ⟨p, 0, none⟩ (.string ⟨#[]⟩)).setCell ⟨p, 1, none⟩ (.int .i64 0)).setCell ⟨p, 2, none⟩ (.slice none 0 0) = w3 at *
 have hd3 : w3.heap[D]? = some (.cells #[.int .i64 c] 152 (0, 0)) := HE.out.at_ _ (List.getElem_mem (n := 3) (by simp))
 have s3 := cell_at (j := 0) hd3 rfl
 refine hK _ _ s3 ?_
 clear hK K hd3
 have hq : w3.heap[q]? = some (.cells #[.string ⟨#[]⟩, .int .i64 0, .int .i64 0, .int .i64 0, .int .i64 0, .slice none 0 0] 138 (0, 0)) := HE.out.at_ _ (List.getElem_mem (n := 1) (by simp))
 have qc0 := cell_at (j := 0) hq rfl; have qf0 := frozen_at (j := 0) hq; have qc1 := cell_at (j := 1) hq rfl; have qf1 := frozen_at (j := 1) hq; have qc2 := cell_at (j := 2) hq rfl; have qf2 := frozen_at (j := 2) hq; have qc3 := cell_at (j := 3) hq rfl; have qf3 := frozen_at (j := 3) hq; have qc4 := cell_at (j := 4) hq rfl; have qf4 := frozen_at (j := 4) hq; have qc5 := cell_at (j := 5) hq rfl; have qf5 := frozen_at (j := 5) hq
 clear hq
 go_wp2_with (first
  |(refine ord_pure rfl rfl rfl (fun K hK => ?_); go_big_quiet_op; refine hK _ ?_; clear hK K)
  |(refine ord_held rfl rfl rfl (s3) (fun K hK => ?_); apply Exists.intro; refine ⟨fun w' hs => ?_, hK _ ?_⟩; (revert hs; dsimp only; (try simp only [and_imp]); intros; go_simp; rfl); clear hK K)
  |(refine ord_keep rfl rfl (s3) (fun K hK => ?_))
  |(refine ord_drop rfl rfl (fun K hK => ?_))
  |(refine ord_nil ?_))
 have HG : Hid (Fam 0 (((((((w3).setCell ⟨q, 0, none⟩ (.string ⟨#[]⟩)).setCell ⟨q, 1, none⟩ (.int .i64 0)).setCell ⟨q, 2, none⟩ (.int .i64 0)).setCell ⟨q, 3, none⟩ (.int .i64 0)).setCell ⟨q, 4, none⟩ (.int .i64 0)).setCell ⟨q, 5, none⟩ (.slice none 0 0)) [boxI p #[.string ⟨#[]⟩, .int .i64 0, .slice none 0 0] 86, boxI q #[.string ⟨#[]⟩, .int .i64 0, .int .i64 0, .int .i64 0, .int .i64 0, .slice none 0 0] 138, boxI r #[.int .i64 0] 27, boxI D #[.int .i64 c] 152]) := Hi (famCell (famCell (famCell (famCell (famCell (famCell HE.out (k := 1) (by simp) rfl 0 (.string ⟨#[]⟩)) (k := 1) (by simp) rfl 1 (.int .i64 0)) (k := 1) (by simp) rfl 2 (.int .i64 0)) (k := 1) (by simp) rfl 3 (.int .i64 0)) (k := 1) (by simp) rfl 4 (.int .i64 0)) (k := 1) (by simp) rfl 5 (.slice none 0 0))
 have HMG := Hi (((((((HME.out).setCell (p := ⟨q, 0, none⟩) (fun _ => .inr (.inl rfl)) (.string ⟨#[]⟩)).setCell (p := ⟨q, 1, none⟩) (fun _ => .inr (.inl rfl)) (.int .i64 0)).setCell (p := ⟨q, 2, none⟩) (fun _ => .inr (.inl rfl)) (.int .i64 0)).setCell (p := ⟨q, 3, none⟩) (fun _ => .inr (.inl rfl)) (.int .i64 0)).setCell (p := ⟨q, 4, none⟩) (fun _ => .inr (.inl rfl)) (.int .i64 0)).setCell (p := ⟨q, 5, none⟩) (fun _ => .inr (.inl rfl)) (.slice none 0 0))
 clear qc0 qf0 qc1 qf1 qc2 qf2 qc3 qf3 qc4 qf4 qc5 qf5 s3 HE HME
 generalize ((((((w3).setCell ⟨q, 0, none⟩ (.string ⟨#[]⟩)).setCell ⟨q, 1, none⟩ (.int .i64 0)).setCell ⟨q, 2, none⟩ (.int .i64 0)).setCell ⟨q, 3, none⟩ (.int .i64 0)).setCell ⟨q, 4, none⟩ (.int .i64 0)).setCell ⟨q, 5, none⟩ (.slice none 0 0) = w4 at *
 have hd4 : w4.heap[D]? = some (.cells #[.int .i64 c] 152 (0, 0)) := HG.out.at_ _ (List.getElem_mem (n := 3) (by simp))
 have s4 := cell_at (j := 0) hd4 rfl
 refine hK _ _ s4 ?_
 clear hK K hd4
 have hr : w4.heap[r]? = some (.cells #[.int .i64 0] 27 (0, 0)) := HG.out.at_ _ (List.getElem_mem (n := 2) (by simp))
 have rc0 := cell_at (j := 0) hr rfl; have rf0 := frozen_at (j := 0) hr
 clear hr
 go_wp2_with (first
  |(refine ord_pure rfl rfl rfl (fun K hK => ?_); go_big_quiet_op; refine hK _ ?_; clear hK K)
  |(refine ord_held rfl rfl rfl (s4) (fun K hK => ?_); apply Exists.intro; refine ⟨fun w' hs => ?_, hK _ ?_⟩; (revert hs; dsimp only; (try simp only [and_imp]); intros; go_simp; rfl); clear hK K)
  |(refine ord_keep rfl rfl (s4) (fun K hK => ?_))
  |(refine ord_drop rfl rfl (fun K hK => ?_))
  |(refine ord_nil ?_))
 have HH : Hid (Fam 0 (w4.setCell ⟨r, 0, none⟩ (.int .i64 c)) [boxI p #[.string ⟨#[]⟩, .int .i64 0, .slice none 0 0] 86, boxI q #[.string ⟨#[]⟩, .int .i64 0, .int .i64 0, .int .i64 0, .int .i64 0, .slice none 0 0] 138, boxI r #[.int .i64 c] 27, boxI D #[.int .i64 c] 152]) := Hi (famCell HG.out (k := 2) (by simp) rfl 0 (.int .i64 c))
 have HMH := Hi (HMG.out.setCell (p := ⟨r, 0, none⟩) (fun _ => .inr (.inr rfl)) (.int .i64 c))
 clear rc0 rf0 s4
 generalize w4.setCell ⟨r, 0, none⟩ (.int .i64 c) = w5 at *
 simp [bodyPostS, results, Tryz.results106]
 exact ⟨HMH.out, HH.out.sub (List.sublist_append_left [_, _, _] [_])⟩
def GPost (l : List UInt8) (w : World) (e : Ending) (w' : World) : Prop :=
 ((∃ k, BadF l k ∧ e = .returned (.tuple #[.agg #[.string ⟨#[]⟩, .int .i64 0, .slice none 0 0], .agg #[.string ⟨#[]⟩, .int .i64 0, .int .i64 0, .int .i64 0, .int .i64 0, .slice none 0 0], .int .i64 k])) ∨
   (∃ F a c pa pc, GoodF l F ∧ e = .returned (.tuple #[relV F a c, statV F pa pc, .int .i64 0]) ∧ RowsAt w.heap.size w w' F a c ∧ Rd w' pa (ns F.ps) ∧ ∀ b, blk pa = some b → w.heap.size ≤ b)) ∧ Mod (fun _ => False) w w'
theorem guarded_any (a : Option Addr) (c : Nat) (l : List UInt8) (w : World) (hr : Rd w a (bts l)) (hc : l.length ≤ c) (hl : l.length < 2 ^ 40) :
 Calls Tryz.prog 94 #[.slice a l.length c] w (GPost l w) := by
 have HR := Hi hr
 clear hr
 have hmf : ∀ (fn : Fn) (first cap : Array Value) (w : World), (Instr.makeFunc fn first cap).run Tryz.prog w = .ok (.func fn first cap) w := fun _ _ _ _ => rfl
 have HS0 : Hid (RS w (((w.alloc (.cells #[.string ⟨#[]⟩, .int .i64 0, .slice none 0 0] 86)).alloc (.cells #[.string ⟨#[]⟩, .int .i64 0, .int .i64 0, .int .i64 0, .int .i64 0, .slice none 0 0] 138)).alloc (.cells #[.int .i64 0] 27)) [boxI w.heap.size #[.string ⟨#[]⟩, .int .i64 0, .slice none 0 0] 86, boxI (w.heap.size + 1) #[.string ⟨#[]⟩, .int .i64 0, .int .i64 0, .int .i64 0, .int .i64 0, .slice none 0 0] 138, boxI (w.heap.size + 1 + 1) #[.int .i64 0] 27]) := Hi (by
  have h0 : RS w w [] := ⟨Fam.nil (Nat.le_refl _), Mod.refl _ _⟩
  have h1 := h0.push (i' := boxI w.heap.size #[.string ⟨#[]⟩, .int .i64 0, .slice none 0 0] 86) ((Mod.refl _ w).alloc (.cells #[.string ⟨#[]⟩, .int .i64 0, .slice none 0 0] 86)) (heap_alloc_new w _) (fun b hb => Nat.le_of_eq (Eq.symm hb))
  have e1 : (w.alloc (.cells #[.string ⟨#[]⟩, .int .i64 0, .slice none 0 0] 86)).heap.size = w.heap.size + 1 := by simp
  have h2 := h1.push (i' := boxI (w.heap.size + 1) #[.string ⟨#[]⟩, .int .i64 0, .int .i64 0, .int .i64 0, .int .i64 0, .slice none 0 0] 138) ((Mod.refl _ _).alloc (.cells #[.string ⟨#[]⟩, .int .i64 0, .int .i64 0, .int .i64 0, .int .i64 0, .slice none 0 0] 138)) (by have h := heap_alloc_new (w.alloc (.cells #[.string ⟨#[]⟩, .int .i64 0, .slice none 0 0] 86)) (.cells #[.string ⟨#[]⟩, .int .i64 0, .int .i64 0, .int .i64 0, .int .i64 0, .slice none 0 0] 138); rw [e1] at h; exact h) (fun b hb => Nat.le_of_eq (by rw [e1]; exact Eq.symm hb))
  have e2 : ((w.alloc (.cells #[.string ⟨#[]⟩, .int .i64 0, .slice none 0 0] 86)).alloc (.cells #[.string ⟨#[]⟩, .int .i64 0, .int .i64 0, .int .i64 0, .int .i64 0, .slice none 0 0] 138)).heap.size = w.heap.size + 1 + 1 := by simp
  exact h2.push (i' := boxI (w.heap.size + 1 + 1) #[.int .i64 0] 27) ((Mod.refl _ _).alloc (.cells #[.int .i64 0] 27)) (by have h := heap_alloc_new ((w.alloc (.cells #[.string ⟨#[]⟩, .int .i64 0, .slice none 0 0] 86)).alloc (.cells #[.string ⟨#[]⟩, .int .i64 0, .int .i64 0, .int .i64 0, .int .i64 0, .slice none 0 0] 138)) (.cells #[.int .i64 0] 27); rw [e2] at h; exact h) (fun b hb => Nat.le_of_eq (by rw [e2]; exact Eq.symm hb)))
 go_enter_defers Tryz.func94, Tryz.ntmps94
 go_wp2_with fail
 have HZ : Hid ((((w.alloc (.cells #[.string ⟨#[]⟩, .int .i64 0, .slice none 0 0] 86)).alloc (.cells #[.string ⟨#[]⟩, .int .i64 0, .int .i64 0, .int .i64 0, .int .i64 0, .slice none 0 0] 138)).alloc (.cells #[.int .i64 0] 27)).heap.size = w.heap.size + 1 + 1 + 1) := Hi (by simp)
 obtain ⟨B, hB⟩ : ∃ B, B = w.heap.size := ⟨_, rfl⟩
 rw [← hB] at HS0 HZ ⊢
 have HB := Hi hB
 clear hB
 generalize ((w.alloc (.cells #[.string ⟨#[]⟩, .int .i64 0, .slice none 0 0] 86)).alloc (.cells #[.string ⟨#[]⟩, .int .i64 0, .int .i64 0, .int .i64 0, .int .i64 0, .slice none 0 0] 138)).alloc (.cells #[.int .i64 0] 27) = w0 at *
 refine (read_any a c l w0 (HR.out.mod HS0.out.md fun _ _ => id) hc hl).mono ?_
 rintro e w1 ⟨(⟨k, hbad, rfl⟩ | ⟨F, ra, rc, pa, pc, hgood, rfl, hrows, hpg, hpl⟩), hm⟩
 ·have HS1 := Hi (HS0.out.mod0 hm)
  clear HS0 hm
  go_wp2_with fail
  refine leaves_cons (f := 106) (args := #[.pointer (some ⟨B, 0, none⟩), .pointer (some ⟨B + 1, 0, none⟩), .pointer (some ⟨B + 1 + 1, 0, none⟩)]) (by simp) (by simp [go_sem]) ?_
  refine (catchF_wrong B (B + 1) (B + 1 + 1) k w1 (HS1.out.fam.mono (Nat.zero_le _))).mono ?_
  rintro e u' w2 ⟨rfl, rfl, hM3, hF3⟩
  have h0 : w2.heap[B]? = some (.cells #[.string ⟨#[]⟩, .int .i64 0, .slice none 0 0] 86 (0, 0)) := hF3.at_ _ (List.getElem_mem (n := 0) (by simp))
  have h1 : w2.heap[B + 1]? = some (.cells #[.string ⟨#[]⟩, .int .i64 0, .int .i64 0, .int .i64 0, .int .i64 0, .slice none 0 0] 138 (0, 0)) := hF3.at_ _ (List.getElem_mem (n := 1) (by simp))
  have h2 : w2.heap[B + 1 + 1]? = some (.cells #[.int .i64 k] 27 (0, 0)) := hF3.at_ _ (List.getElem_mem (n := 2) (by simp))
  have hM : Mod (fun _ => False) w w2 := HS1.out.md.step hM3 fun i hi hs => by have := HB.out; rcases hs with h | h | h <;> omega
  have hgp : GPost l w (.returned (.tuple #[.agg #[.string ⟨#[]⟩, .int .i64 0, .slice none 0 0], .agg #[.string ⟨#[]⟩, .int .i64 0, .int .i64 0, .int .i64 0, .int .i64 0, .slice none 0 0], .int .i64 k])) w2 := ⟨.inl ⟨k, hbad, rfl⟩, hM⟩
  clear hF3 hM hbad hM3 HS1
  have pc0 := cell_at (j := 0) h0 rfl; have pf0 := frozen_at (j := 0) h0; have pc1 := cell_at (j := 1) h0 rfl; have pf1 := frozen_at (j := 1) h0; have pc2 := cell_at (j := 2) h0 rfl; have pf2 := frozen_at (j := 2) h0
  have qc0 := cell_at (j := 0) h1 rfl; have qf0 := frozen_at (j := 0) h1; have qc1 := cell_at (j := 1) h1 rfl; have qf1 := frozen_at (j := 1) h1; have qc2 := cell_at (j := 2) h1 rfl; have qf2 := frozen_at (j := 2) h1; have qc3 := cell_at (j := 3) h1 rfl; have qf3 := frozen_at (j := 3) h1; have qc4 := cell_at (j := 4) h1 rfl; have qf4 := frozen_at (j := 4) h1; have qc5 := cell_at (j := 5) h1 rfl; have qf5 := frozen_at (j := 5) h1
  have rc0 := cell_at (j := 0) h2 rfl; have rf0 := frozen_at (j := 0) h2
  simp [Leaves, settle, results, Tryz.results94, go_sem, pc0, pc1, pc2, qc0, qc1, qc2, qc3, qc4, qc5, rc0]
  exact hgp
 ·have HS1 := Hi (HS0.out.mod0 hm)
  have HRO := Hi hrows
  have HPG := Hi hpg
  have HPL := Hi hpl
  have HGO := Hi hgood
  have HW0 := Hi HS0.out.md
  clear HS0 hm hrows hpg hgood hpl
  simp only [relV, statV]
  have h0 : w1.heap[B]? = some (.cells #[.string ⟨#[]⟩, .int .i64 0, .slice none 0 0] 86 (0, 0)) := HS1.out.get (k := 0) (by simp)
  have h1 : w1.heap[B + 1]? = some (.cells #[.string ⟨#[]⟩, .int .i64 0, .int .i64 0, .int .i64 0, .int .i64 0, .slice none 0 0] 138 (0, 0)) := HS1.out.get (k := 1) (by simp)
  have pc0 := cell_at (j := 0) h0 rfl; have pf0 := frozen_at (j := 0) h0; have pc1 := cell_at (j := 1) h0 rfl; have pf1 := frozen_at (j := 1) h0; have pc2 := cell_at (j := 2) h0 rfl; have pf2 := frozen_at (j := 2) h0
  have qc0 := cell_at (j := 0) h1 rfl; have qf0 := frozen_at (j := 0) h1; have qc1 := cell_at (j := 1) h1 rfl; have qf1 := frozen_at (j := 1) h1; have qc2 := cell_at (j := 2) h1 rfl; have qf2 := frozen_at (j := 2) h1; have qc3 := cell_at (j := 3) h1 rfl; have qf3 := frozen_at (j := 3) h1; have qc4 := cell_at (j := 4) h1 rfl; have qf4 := frozen_at (j := 4) h1; have qc5 := cell_at (j := 5) h1 rfl; have qf5 := frozen_at (j := 5) h1
  clear h0 h1
  go_wp2_with fail
  have HS2 : Hid (RS w ((((((((((w1).setCell ⟨B, 0, none⟩ (.string ⟨F.nm.toArray⟩)).setCell ⟨B, 1, none⟩ (.int .i64 F.A)).setCell ⟨B, 2, none⟩ (.slice ra F.n rc)).setCell ⟨B + 1, 0, none⟩ (.string ⟨F.nm.toArray⟩)).setCell ⟨B + 1, 1, none⟩ (.int .i64 F.A)).setCell ⟨B + 1, 2, none⟩ (.int .i64 F.n)).setCell ⟨B + 1, 3, none⟩ (.int .i64 F.ts.length)).setCell ⟨B + 1, 4, none⟩ (.int .i64 F.d)).setCell ⟨B + 1, 5, none⟩ (.slice pa F.A pc)) [boxI B #[.string ⟨F.nm.toArray⟩, .int .i64 F.A, .slice ra F.n rc] 86, boxI (B + 1) #[.string ⟨F.nm.toArray⟩, .int .i64 F.A, .int .i64 F.n, .int .i64 F.ts.length, .int .i64 F.d, .slice pa F.A pc] 138, boxI (B + 1 + 1) #[.int .i64 0] 27]) := Hi (RS.cell (RS.cell (RS.cell (RS.cell (RS.cell (RS.cell (RS.cell (RS.cell (RS.cell HS1.out (k := 0) (by simp) rfl 0 (.string ⟨F.nm.toArray⟩)) (k := 0) (by simp) rfl 1 (.int .i64 F.A)) (k := 0) (by simp) rfl 2 (.slice ra F.n rc)) (k := 1) (by simp) rfl 0 (.string ⟨F.nm.toArray⟩)) (k := 1) (by simp) rfl 1 (.int .i64 F.A)) (k := 1) (by simp) rfl 2 (.int .i64 F.n)) (k := 1) (by simp) rfl 3 (.int .i64 F.ts.length)) (k := 1) (by simp) rfl 4 (.int .i64 F.d)) (k := 1) (by simp) rfl 5 (.slice pa F.A pc))
  have HM2 : Hid (Mod (fun b => b = B ∨ b = B + 1 ∨ b = B + 1 + 1) w1 ((((((((((w1).setCell ⟨B, 0, none⟩ (.string ⟨F.nm.toArray⟩)).setCell ⟨B, 1, none⟩ (.int .i64 F.A)).setCell ⟨B, 2, none⟩ (.slice ra F.n rc)).setCell ⟨B + 1, 0, none⟩ (.string ⟨F.nm.toArray⟩)).setCell ⟨B + 1, 1, none⟩ (.int .i64 F.A)).setCell ⟨B + 1, 2, none⟩ (.int .i64 F.n)).setCell ⟨B + 1, 3, none⟩ (.int .i64 F.ts.length)).setCell ⟨B + 1, 4, none⟩ (.int .i64 F.d)).setCell ⟨B + 1, 5, none⟩ (.slice pa F.A pc))) := Hi ((((((((((Mod.refl (fun b => b = B ∨ b = B + 1 ∨ b = B + 1 + 1) w1).setCell (p := ⟨B, 0, none⟩) (fun _ => .inl rfl) (.string ⟨F.nm.toArray⟩)).setCell (p := ⟨B, 1, none⟩) (fun _ => .inl rfl) (.int .i64 F.A)).setCell (p := ⟨B, 2, none⟩) (fun _ => .inl rfl) (.slice ra F.n rc)).setCell (p := ⟨B + 1, 0, none⟩) (fun _ => .inr (.inl rfl)) (.string ⟨F.nm.toArray⟩)).setCell (p := ⟨B + 1, 1, none⟩) (fun _ => .inr (.inl rfl)) (.int .i64 F.A)).setCell (p := ⟨B + 1, 2, none⟩) (fun _ => .inr (.inl rfl)) (.int .i64 F.n)).setCell (p := ⟨B + 1, 3, none⟩) (fun _ => .inr (.inl rfl)) (.int .i64 F.ts.length)).setCell (p := ⟨B + 1, 4, none⟩) (fun _ => .inr (.inl rfl)) (.int .i64 F.d)).setCell (p := ⟨B + 1, 5, none⟩) (fun _ => .inr (.inl rfl)) (.slice pa F.A pc))
  clear pc0 pf0 pc1 pf1 pc2 pf2 qc0 qf0 qc1 qf1 qc2 qf2 qc3 qf3 qc4 qf4 qc5 qf5 HS1
  generalize (((((((((w1).setCell ⟨B, 0, none⟩ (.string ⟨F.nm.toArray⟩)).setCell ⟨B, 1, none⟩ (.int .i64 F.A)).setCell ⟨B, 2, none⟩ (.slice ra F.n rc)).setCell ⟨B + 1, 0, none⟩ (.string ⟨F.nm.toArray⟩)).setCell ⟨B + 1, 1, none⟩ (.int .i64 F.A)).setCell ⟨B + 1, 2, none⟩ (.int .i64 F.n)).setCell ⟨B + 1, 3, none⟩ (.int .i64 F.ts.length)).setCell ⟨B + 1, 4, none⟩ (.int .i64 F.d)).setCell ⟨B + 1, 5, none⟩ (.slice pa F.A pc) = w2 at *
  have HS3 := Hi (HS2.out.mod0 (w' := w2.drew) ((Mod.refl _ w2).drew))
  have HM3 := Hi (HM2.out.drew)
  clear HS2 HM2
  refine wp_region_ord (fun w' => (w'.cell? ⟨B, 0, none⟩ = some (.string ⟨F.nm.toArray⟩) ∧ w'.cell? ⟨B, 1, none⟩ = some (.int .i64 F.A) ∧ w'.cell? ⟨B, 2, none⟩ = some (.slice ra F.n rc)) ∧ (w'.cell? ⟨B + 1, 0, none⟩ = some (.string ⟨F.nm.toArray⟩) ∧ w'.cell? ⟨B + 1, 1, none⟩ = some (.int .i64 F.A) ∧ w'.cell? ⟨B + 1, 2, none⟩ = some (.int .i64 F.n) ∧ w'.cell? ⟨B + 1, 3, none⟩ = some (.int .i64 F.ts.length) ∧ w'.cell? ⟨B + 1, 4, none⟩ = some (.int .i64 F.d) ∧ w'.cell? ⟨B + 1, 5, none⟩ = some (.slice pa F.A pc))) [(1, 0), (1, 1), (2, 2), (3, 3), (3, 4)] (by kernel_rfl) (by kernel_rfl) ?_
  generalize w2.drew = w3 at *
  have h0 : w3.heap[B]? = some (.cells #[.string ⟨F.nm.toArray⟩, .int .i64 F.A, .slice ra F.n rc] 86 (0, 0)) := HS3.out.get (k := 0) (by simp)
  have h1 : w3.heap[B + 1]? = some (.cells #[.string ⟨F.nm.toArray⟩, .int .i64 F.A, .int .i64 F.n, .int .i64 F.ts.length, .int .i64 F.d, .slice pa F.A pc] 138 (0, 0)) := HS3.out.get (k := 1) (by simp)
  have h2 : w3.heap[B + 1 + 1]? = some (.cells #[.int .i64 0] 27 (0, 0)) := HS3.out.get (k := 2) (by simp)
  have pc0 := cell_at (j := 0) h0 rfl; have pf0 := frozen_at (j := 0) h0; have pc1 := cell_at (j := 1) h0 rfl; have pf1 := frozen_at (j := 1) h0; have pc2 := cell_at (j := 2) h0 rfl; have pf2 := frozen_at (j := 2) h0
  have qc0 := cell_at (j := 0) h1 rfl; have qf0 := frozen_at (j := 0) h1; have qc1 := cell_at (j := 1) h1 rfl; have qf1 := frozen_at (j := 1) h1; have qc2 := cell_at (j := 2) h1 rfl; have qf2 := frozen_at (j := 2) h1; have qc3 := cell_at (j := 3) h1 rfl; have qf3 := frozen_at (j := 3) h1; have qc4 := cell_at (j := 4) h1 rfl; have qf4 := frozen_at (j := 4) h1; have qc5 := cell_at (j := 5) h1 rfl; have qf5 := frozen_at (j := 5) h1
  have rc0 := cell_at (j := 0) h2 rfl; have rf0 := frozen_at (j := 0) h2
  clear h0 h1 h2
  go_wp2_with (first
   |(refine ord_pure rfl rfl rfl (fun K hK => ?_); go_big_quiet_op; refine hK _ ?_; clear hK K)
   |(refine ord_held rfl rfl rfl (⟨⟨pc0, pc1, pc2⟩, qc0, qc1, qc2, qc3, qc4, qc5⟩) (fun K hK => ?_); apply Exists.intro; refine ⟨fun w' hs => ?_, hK _ ?_⟩; (revert hs; dsimp only; (try simp only [and_imp]); intros; go_simp; rfl); clear hK K)
   |(refine ord_keep rfl rfl (⟨⟨pc0, pc1, pc2⟩, qc0, qc1, qc2, qc3, qc4, qc5⟩) (fun K hK => ?_))
   |(refine ord_drop rfl rfl (fun K hK => ?_))
   |(refine ord_nil ?_))
  have HS4 : Hid (RS w ((((w3).setCell ⟨B, 0, none⟩ (.string ⟨F.nm.toArray⟩)).setCell ⟨B, 1, none⟩ (.int .i64 F.A)).setCell ⟨B, 2, none⟩ (.slice ra F.n rc)) [boxI B #[.string ⟨F.nm.toArray⟩, .int .i64 F.A, .slice ra F.n rc] 86, boxI (B + 1) #[.string ⟨F.nm.toArray⟩, .int .i64 F.A, .int .i64 F.n, .int .i64 F.ts.length, .int .i64 F.d, .slice pa F.A pc] 138, boxI (B + 1 + 1) #[.int .i64 0] 27]) := Hi (RS.cell (RS.cell (RS.cell HS3.out (k := 0) (by simp) rfl 0 (.string ⟨F.nm.toArray⟩)) (k := 0) (by simp) rfl 1 (.int .i64 F.A)) (k := 0) (by simp) rfl 2 (.slice ra F.n rc))
  have HM4 := Hi ((((HM3.out).setCell (p := ⟨B, 0, none⟩) (fun _ => .inl rfl) (.string ⟨F.nm.toArray⟩)).setCell (p := ⟨B, 1, none⟩) (fun _ => .inl rfl) (.int .i64 F.A)).setCell (p := ⟨B, 2, none⟩) (fun _ => .inl rfl) (.slice ra F.n rc))
  clear pc0 pf0 pc1 pf1 pc2 pf2 qc0 qf0 qc1 qf1 qc2 qf2 qc3 qf3 qc4 qf4 qc5 qf5 rc0 rf0 HS3 HM3
  generalize (((w3).setCell ⟨B, 0, none⟩ (.string ⟨F.nm.toArray⟩)).setCell ⟨B, 1, none⟩ (.int .i64 F.A)).setCell ⟨B, 2, none⟩ (.slice ra F.n rc) = w4 at *
  have h0 : w4.heap[B]? = some (.cells #[.string ⟨F.nm.toArray⟩, .int .i64 F.A, .slice ra F.n rc] 86 (0, 0)) := HS4.out.get (k := 0) (by simp)
  have h1 : w4.heap[B + 1]? = some (.cells #[.string ⟨F.nm.toArray⟩, .int .i64 F.A, .int .i64 F.n, .int .i64 F.ts.length, .int .i64 F.d, .slice pa F.A pc] 138 (0, 0)) := HS4.out.get (k := 1) (by simp)
  have h2 : w4.heap[B + 1 + 1]? = some (.cells #[.int .i64 0] 27 (0, 0)) := HS4.out.get (k := 2) (by simp)
  have pc0 := cell_at (j := 0) h0 rfl; have pf0 := frozen_at (j := 0) h0; have pc1 := cell_at (j := 1) h0 rfl; have pf1 := frozen_at (j := 1) h0; have pc2 := cell_at (j := 2) h0 rfl; have pf2 := frozen_at (j := 2) h0
  have qc0 := cell_at (j := 0) h1 rfl; have qf0 := frozen_at (j := 0) h1; have qc1 := cell_at (j := 1) h1 rfl; have qf1 := frozen_at (j := 1) h1; have qc2 := cell_at (j := 2) h1 rfl; have qf2 := frozen_at (j := 2) h1; have qc3 := cell_at (j := 3) h1 rfl; have qf3 := frozen_at (j := 3) h1; have qc4 := cell_at (j := 4) h1 rfl; have qf4 := frozen_at (j := 4) h1; have qc5 := cell_at (j := 5) h1 rfl; have qf5 := frozen_at (j := 5) h1
  have rc0 := cell_at (j := 0) h2 rfl; have rf0 := frozen_at (j := 0) h2
  clear h0 h1 h2
  refine hK _ _ ⟨⟨pc0, pc1, pc2⟩, qc0, qc1, qc2, qc3, qc4, qc5⟩ ?_
  clear hK K
  go_wp2_with (first
   |(refine ord_pure rfl rfl rfl (fun K hK => ?_); go_big_quiet_op; refine hK _ ?_; clear hK K)
   |(refine ord_held rfl rfl rfl (⟨⟨pc0, pc1, pc2⟩, qc0, qc1, qc2, qc3, qc4, qc5⟩) (fun K hK => ?_); apply Exists.intro; refine ⟨fun w' hs => ?_, hK _ ?_⟩; (revert hs; dsimp only; (try simp only [and_imp]); intros; go_simp; rfl); clear hK K)
   |(refine ord_keep rfl rfl (⟨⟨pc0, pc1, pc2⟩, qc0, qc1, qc2, qc3, qc4, qc5⟩) (fun K hK => ?_))
   |(refine ord_drop rfl rfl (fun K hK => ?_))
   |(refine ord_nil ?_))
  have HS5 : Hid (RS w ((((((((w4).setCell ⟨B + 1, 0, none⟩ (.string ⟨F.nm.toArray⟩)).setCell ⟨B + 1, 1, none⟩ (.int .i64 F.A)).setCell ⟨B + 1, 2, none⟩ (.int .i64 F.n)).setCell ⟨B + 1, 3, none⟩ (.int .i64 F.ts.length)).setCell ⟨B + 1, 4, none⟩ (.int .i64 F.d)).setCell ⟨B + 1, 5, none⟩ (.slice pa F.A pc)).setCell ⟨B + 1 + 1, 0, none⟩ (.int .i64 0)) [boxI B #[.string ⟨F.nm.toArray⟩, .int .i64 F.A, .slice ra F.n rc] 86, boxI (B + 1) #[.string ⟨F.nm.toArray⟩, .int .i64 F.A, .int .i64 F.n, .int .i64 F.ts.length, .int .i64 F.d, .slice pa F.A pc] 138, boxI (B + 1 + 1) #[.int .i64 0] 27]) := Hi (RS.cell (RS.cell (RS.cell (RS.cell (RS.cell (RS.cell (RS.cell HS4.out (k := 1) (by simp) rfl 0 (.string ⟨F.nm.toArray⟩)) (k := 1) (by simp) rfl 1 (.int .i64 F.A)) (k := 1) (by simp) rfl 2 (.int .i64 F.n)) (k := 1) (by simp) rfl 3 (.int .i64 F.ts.length)) (k := 1) (by simp) rfl 4 (.int .i64 F.d)) (k := 1) (by simp) rfl 5 (.slice pa F.A pc)) (k := 2) (by simp) rfl 0 (.int .i64 0))
  have HM5 := Hi ((((((((HM4.out).setCell (p := ⟨B + 1, 0, none⟩) (fun _ => .inr (.inl rfl)) (.string ⟨F.nm.toArray⟩)).setCell (p := ⟨B + 1, 1, none⟩) (fun _ => .inr (.inl rfl)) (.int .i64 F.A)).setCell (p := ⟨B + 1, 2, none⟩) (fun _ => .inr (.inl rfl)) (.int .i64 F.n)).setCell (p := ⟨B + 1, 3, none⟩) (fun _ => .inr (.inl rfl)) (.int .i64 F.ts.length)).setCell (p := ⟨B + 1, 4, none⟩) (fun _ => .inr (.inl rfl)) (.int .i64 F.d)).setCell (p := ⟨B + 1, 5, none⟩) (fun _ => .inr (.inl rfl)) (.slice pa F.A pc)).setCell (p := ⟨B + 1 + 1, 0, none⟩) (fun _ => .inr (.inr rfl)) (.int .i64 0))
  clear pc0 pf0 pc1 pf1 pc2 pf2 qc0 qf0 qc1 qf1 qc2 qf2 qc3 qf3 qc4 qf4 qc5 qf5 rc0 rf0 HS4 HM4
  generalize (((((((w4).setCell ⟨B + 1, 0, none⟩ (.string ⟨F.nm.toArray⟩)).setCell ⟨B + 1, 1, none⟩ (.int .i64 F.A)).setCell ⟨B + 1, 2, none⟩ (.int .i64 F.n)).setCell ⟨B + 1, 3, none⟩ (.int .i64 F.ts.length)).setCell ⟨B + 1, 4, none⟩ (.int .i64 F.d)).setCell ⟨B + 1, 5, none⟩ (.slice pa F.A pc)).setCell ⟨B + 1 + 1, 0, none⟩ (.int .i64 0) = w5 at *
  refine leaves_cons (f := 106) (args := #[.pointer (some ⟨B, 0, none⟩), .pointer (some ⟨B + 1, 0, none⟩), .pointer (some ⟨B + 1 + 1, 0, none⟩)]) (by simp) (by simp [go_sem]) ?_
  refine (catchF_idle _ _ _ _).mono ?_
  rintro e u' w6 ⟨rfl, rfl, rfl⟩
  have hgp : GPost l w (.returned (.tuple #[.agg #[.string ⟨F.nm.toArray⟩, .int .i64 F.A, .slice ra F.n rc], .agg #[.string ⟨F.nm.toArray⟩, .int .i64 F.A, .int .i64 F.n, .int .i64 F.ts.length, .int .i64 F.d, .slice pa F.A pc], .int .i64 0])) w6 := ⟨.inr ⟨F, ra, rc, pa, pc, HGO.out, rfl, ?_, ?_, ?_⟩, HS5.out.md⟩
  ·have h0 : w6.heap[B]? = some (.cells #[.string ⟨F.nm.toArray⟩, .int .i64 F.A, .slice ra F.n rc] 86 (0, 0)) := HS5.out.get (k := 0) (by simp)
   have h1 : w6.heap[B + 1]? = some (.cells #[.string ⟨F.nm.toArray⟩, .int .i64 F.A, .int .i64 F.n, .int .i64 F.ts.length, .int .i64 F.d, .slice pa F.A pc] 138 (0, 0)) := HS5.out.get (k := 1) (by simp)
   have h2 : w6.heap[B + 1 + 1]? = some (.cells #[.int .i64 0] 27 (0, 0)) := HS5.out.get (k := 2) (by simp)
   have pc0 := cell_at (j := 0) h0 rfl; have pf0 := frozen_at (j := 0) h0; have pc1 := cell_at (j := 1) h0 rfl; have pf1 := frozen_at (j := 1) h0; have pc2 := cell_at (j := 2) h0 rfl; have pf2 := frozen_at (j := 2) h0
   have qc0 := cell_at (j := 0) h1 rfl; have qf0 := frozen_at (j := 0) h1; have qc1 := cell_at (j := 1) h1 rfl; have qf1 := frozen_at (j := 1) h1; have qc2 := cell_at (j := 2) h1 rfl; have qf2 := frozen_at (j := 2) h1; have qc3 := cell_at (j := 3) h1 rfl; have qf3 := frozen_at (j := 3) h1; have qc4 := cell_at (j := 4) h1 rfl; have qf4 := frozen_at (j := 4) h1; have qc5 := cell_at (j := 5) h1 rfl; have qf5 := frozen_at (j := 5) h1
   have rc0 := cell_at (j := 0) h2 rfl; have rf0 := frozen_at (j := 0) h2
   clear h0 h1 h2
   clear HS5 HM5 HRO HPG
   simp [Leaves, settle, results, Tryz.results94, go_sem, pc0, pc1, pc2, qc0, qc1, qc2, qc3, qc4, qc5, rc0]
   exact hgp
  ·obtain ⟨hs, h⟩ := HRO.out
   exact ⟨hs, h.close HW0.out HM5.out (fun b hb => hb) (fun b hb => by have h1 := HB.out; have h2 := HZ.out; rcases hb with rfl | rfl | rfl <;> omega)⟩
  ·exact HPG.out.mod HM5.out fun b hb e => by
    have h1 := HPL.out b hb
    have h2 := HZ.out
    have h3 := HB.out
    rcases e with rfl | rfl | rfl <;> omega
  ·intro b hb
   have h1 := HPL.out b hb
   have h2 := HZ.out
   have h3 := HB.out
   omega
end Go.Proofs.YtjoiaejbahdjkaaGreat
/-
  colfile.Decode and colfile.Look, walked.
-/
namespace Go.Proofs.YtjoiaejbahdjkaaGreat
open Go Go.RowKit Go.Mine
set_option linter.unusedVariables false
set_option maxHeartbeats 4000000
set_option maxRecDepth 100000
def DPost (l : List UInt8) (w : World) (e : Ending) (w' : World) : Prop :=
 ((∃ k, BadF l k ∧ e = .returned (.tuple #[.agg #[.string ⟨#[]⟩, .int .i64 0, .slice none 0 0], .int .i64 k])) ∨
   (∃ F a c, GoodF l F ∧ e = .returned (.tuple #[relV F a c, .int .i64 0]) ∧ RowsAt w.heap.size w w' F a c)) ∧ Mod (fun _ => False) w w'
def LkPost (l : List UInt8) (w : World) (e : Ending) (w' : World) : Prop :=
 ((∃ k, BadF l k ∧ e = .returned (.tuple #[.agg #[.string ⟨#[]⟩, .int .i64 0, .int .i64 0, .int .i64 0, .int .i64 0, .slice none 0 0], .int .i64 k])) ∨
   (∃ F pa pc, GoodF l F ∧ e = .returned (.tuple #[statV F pa pc, .int .i64 0]) ∧ Rd w' pa (ns F.ps))) ∧ Mod (fun _ => False) w w'
theorem decodeF_any (a : Option Addr) (c : Nat) (l : List UInt8) (w : World) (hr : Rd w a (bts l)) (hc : l.length ≤ c) (hl : l.length < 2 ^ 40) :
 Calls Tryz.prog 69 #[.slice a l.length c] w (DPost l w) := by
 have HR := Hi hr
 clear hr
 have HS0 : Hid (RS w (w.alloc (.cells #[.string ⟨#[]⟩, .int .i64 0, .slice none 0 0] 86)) [boxI w.heap.size #[.string ⟨#[]⟩, .int .i64 0, .slice none 0 0] 86]) := Hi (by
  have h0 : RS w w [] := ⟨Fam.nil (Nat.le_refl _), Mod.refl _ _⟩
  exact h0.push (i' := boxI w.heap.size #[.string ⟨#[]⟩, .int .i64 0, .slice none 0 0] 86) ((Mod.refl _ w).alloc (.cells #[.string ⟨#[]⟩, .int .i64 0, .slice none 0 0] 86)) (heap_alloc_new w _) (fun b hb => Nat.le_of_eq (Eq.symm hb)))
 have HZ : Hid ((w.alloc (.cells #[.string ⟨#[]⟩, .int .i64 0, .slice none 0 0] 86)).heap.size = w.heap.size + 1) := Hi (by simp)
 go_enter Tryz.func69, Tryz.ntmps69
 go_wp2_with fail
 obtain ⟨B, hB⟩ : ∃ B, B = w.heap.size := ⟨_, rfl⟩
 rw [← hB] at HS0 HZ ⊢
 have HB := Hi hB
 clear hB
 generalize w.alloc (.cells #[.string ⟨#[]⟩, .int .i64 0, .slice none 0 0] 86) = w0 at *
 refine (guarded_any a c l w0 (HR.out.mod HS0.out.md fun _ _ => id) hc hl).mono ?_
 rintro e w1 ⟨(⟨k, hbad, rfl⟩ | ⟨F, ra, rc, pa, pc, hgood, rfl, hrows, hpg, hpl⟩), hm⟩
 ·have HBA := Hi hbad
  have HS1 := Hi (HS0.out.mod0 hm)
  clear hbad hm
  have hb := Hi (HS1.out.mod0 (((Mod.refl _ w1).alloc (.cells #[.string ⟨#[]⟩, .int .i64 0, .slice none 0 0] 86)).alloc (.cells #[.string ⟨#[]⟩, .int .i64 0, .int .i64 0, .int .i64 0, .int .i64 0, .slice none 0 0] 138)))
  have h0 : ((w1.alloc (.cells #[.string ⟨#[]⟩, .int .i64 0, .slice none 0 0] 86)).alloc (.cells #[.string ⟨#[]⟩, .int .i64 0, .int .i64 0, .int .i64 0, .int .i64 0, .slice none 0 0] 138)).heap[B]? = some (.cells #[.string ⟨#[]⟩, .int .i64 0, .slice none 0 0] 86 (0, 0)) := hb.out.get (k := 0) (by simp)
  have pc0 := cell_at (j := 0) h0 rfl; have pf0 := frozen_at (j := 0) h0; have pc1 := cell_at (j := 1) h0 rfl; have pf1 := frozen_at (j := 1) h0; have pc2 := cell_at (j := 2) h0 rfl; have pf2 := frozen_at (j := 2) h0
  clear h0 hb
  go_wp2_with fail
  have HS2 : Hid (RS w (((((w1.alloc (.cells #[.string ⟨#[]⟩, .int .i64 0, .slice none 0 0] 86)).alloc (.cells #[.string ⟨#[]⟩, .int .i64 0, .int .i64 0, .int .i64 0, .int .i64 0, .slice none 0 0] 138)).setCell ⟨B, 0, none⟩ (.string ⟨#[]⟩)).setCell ⟨B, 1, none⟩ (.int .i64 0)).setCell ⟨B, 2, none⟩ (.slice none 0 0)) [boxI B #[.string ⟨#[]⟩, .int .i64 0, .slice none 0 0] 86]) := Hi (RS.cell (RS.cell (RS.cell (HS1.out.mod0 (((Mod.refl _ w1).alloc (.cells #[.string ⟨#[]⟩, .int .i64 0, .slice none 0 0] 86)).alloc (.cells #[.string ⟨#[]⟩, .int .i64 0, .int .i64 0, .int .i64 0, .int .i64 0, .slice none 0 0] 138))) (k := 0) (by simp) rfl 0 (.string ⟨#[]⟩)) (k := 0) (by simp) rfl 1 (.int .i64 0)) (k := 0) (by simp) rfl 2 (.slice none 0 0))
  have HM2 : Hid (Mod (fun b => b = B) w1 (((((w1.alloc (.cells #[.string ⟨#[]⟩, .int .i64 0, .slice none 0 0] 86)).alloc (.cells #[.string ⟨#[]⟩, .int .i64 0, .int .i64 0, .int .i64 0, .int .i64 0, .slice none 0 0] 138)).setCell ⟨B, 0, none⟩ (.string ⟨#[]⟩)).setCell ⟨B, 1, none⟩ (.int .i64 0)).setCell ⟨B, 2, none⟩ (.slice none 0 0))) := Hi ((((((Mod.refl (fun b => b = B) w1).alloc (.cells #[.string ⟨#[]⟩, .int .i64 0, .slice none 0 0] 86)).alloc (.cells #[.string ⟨#[]⟩, .int .i64 0, .int .i64 0, .int .i64 0, .int .i64 0, .slice none 0 0] 138)).setCell (p := ⟨B, 0, none⟩) (fun _ => rfl) (.string ⟨#[]⟩)).setCell (p := ⟨B, 1, none⟩) (fun _ => rfl) (.int .i64 0)).setCell (p := ⟨B, 2, none⟩) (fun _ => rfl) (.slice none 0 0))
  clear pc0 pf0 pc1 pf1 pc2 pf2
  generalize ((((w1.alloc (.cells #[.string ⟨#[]⟩, .int .i64 0, .slice none 0 0] 86)).alloc (.cells #[.string ⟨#[]⟩, .int .i64 0, .int .i64 0, .int .i64 0, .int .i64 0, .slice none 0 0] 138)).setCell ⟨B, 0, none⟩ (.string ⟨#[]⟩)).setCell ⟨B, 1, none⟩ (.int .i64 0)).setCell ⟨B, 2, none⟩ (.slice none 0 0) = w2 at *
  have h0 : w2.heap[B]? = some (.cells #[.string ⟨#[]⟩, .int .i64 0, .slice none 0 0] 86 (0, 0)) := HS2.out.get (k := 0) (by simp)
  have pc0 := cell_at (j := 0) h0 rfl; have pf0 := frozen_at (j := 0) h0; have pc1 := cell_at (j := 1) h0 rfl; have pf1 := frozen_at (j := 1) h0; have pc2 := cell_at (j := 2) h0 rfl; have pf2 := frozen_at (j := 2) h0
  have hlast : DPost l w (.returned (.tuple #[.agg #[.string ⟨#[]⟩, .int .i64 0, .slice none 0 0], .int .i64 k])) w2 := ⟨.inl ⟨k, HBA.out, rfl⟩, HS2.out.md⟩
  refine bodyPost_ret (v := .tuple #[.agg #[.string ⟨#[]⟩, .int .i64 0, .slice none 0 0], .int .i64 k]) ?_ rfl hlast
  clear hlast
  simp [results, Tryz.results69, go_sem, pc0, pc1, pc2]
 ·have HGO := Hi hgood
  have HRO := Hi hrows
  have HPG := Hi hpg
  have HPL := Hi hpl
  have HS1 := Hi (HS0.out.mod0 hm)
  have HW0 := Hi HS0.out.md
  clear hgood hrows hpg hpl hm
  simp only [relV, statV]
  have hb := Hi (HS1.out.mod0 (((Mod.refl _ w1).alloc (.cells #[.string ⟨F.nm.toArray⟩, .int .i64 F.A, .slice ra F.n rc] 86)).alloc (.cells #[.string ⟨F.nm.toArray⟩, .int .i64 F.A, .int .i64 F.n, .int .i64 F.ts.length, .int .i64 F.d, .slice pa F.A pc] 138)))
  have h0 : ((w1.alloc (.cells #[.string ⟨F.nm.toArray⟩, .int .i64 F.A, .slice ra F.n rc] 86)).alloc (.cells #[.string ⟨F.nm.toArray⟩, .int .i64 F.A, .int .i64 F.n, .int .i64 F.ts.length, .int .i64 F.d, .slice pa F.A pc] 138)).heap[B]? = some (.cells #[.string ⟨#[]⟩, .int .i64 0, .slice none 0 0] 86 (0, 0)) := hb.out.get (k := 0) (by simp)
  have pc0 := cell_at (j := 0) h0 rfl; have pf0 := frozen_at (j := 0) h0; have pc1 := cell_at (j := 1) h0 rfl; have pf1 := frozen_at (j := 1) h0; have pc2 := cell_at (j := 2) h0 rfl; have pf2 := frozen_at (j := 2) h0
  clear h0 hb
  go_wp2_with fail
  have HS2 : Hid (RS w (((((w1.alloc (.cells #[.string ⟨F.nm.toArray⟩, .int .i64 F.A, .slice ra F.n rc] 86)).alloc (.cells #[.string ⟨F.nm.toArray⟩, .int .i64 F.A, .int .i64 F.n, .int .i64 F.ts.length, .int .i64 F.d, .slice pa F.A pc] 138)).setCell ⟨B, 0, none⟩ (.string ⟨F.nm.toArray⟩)).setCell ⟨B, 1, none⟩ (.int .i64 F.A)).setCell ⟨B, 2, none⟩ (.slice ra F.n rc)) [boxI B #[.string ⟨F.nm.toArray⟩, .int .i64 F.A, .slice ra F.n rc] 86]) := Hi (RS.cell (RS.cell (RS.cell (HS1.out.mod0 (((Mod.refl _ w1).alloc (.cells #[.string ⟨F.nm.toArray⟩, .int .i64 F.A, .slice ra F.n rc] 86)).alloc (.cells #[.string ⟨F.nm.toArray⟩, .int .i64 F.A, .int .i64 F.n, .int .i64 F.ts.length, .int .i64 F.d, .slice pa F.A pc] 138))) (k := 0) (by simp) rfl 0 (.string ⟨F.nm.toArray⟩)) (k := 0) (by simp) rfl 1 (.int .i64 F.A)) (k := 0) (by simp) rfl 2 (.slice ra F.n rc))
  have HM2 : Hid (Mod (fun b => b = B) w1 (((((w1.alloc (.cells #[.string ⟨F.nm.toArray⟩, .int .i64 F.A, .slice ra F.n rc] 86)).alloc (.cells #[.string ⟨F.nm.toArray⟩, .int .i64 F.A, .int .i64 F.n, .int .i64 F.ts.length, .int .i64 F.d, .slice pa F.A pc] 138)).setCell ⟨B, 0, none⟩ (.string ⟨F.nm.toArray⟩)).setCell ⟨B, 1, none⟩ (.int .i64 F.A)).setCell ⟨B, 2, none⟩ (.slice ra F.n rc))) := Hi ((((((Mod.refl (fun b => b = B) w1).alloc (.cells #[.string ⟨F.nm.toArray⟩, .int .i64 F.A, .slice ra F.n rc] 86)).alloc (.cells #[.string ⟨F.nm.toArray⟩, .int .i64 F.A, .int .i64 F.n, .int .i64 F.ts.length, .int .i64 F.d, .slice pa F.A pc] 138)).setCell (p := ⟨B, 0, none⟩) (fun _ => rfl) (.string ⟨F.nm.toArray⟩)).setCell (p := ⟨B, 1, none⟩) (fun _ => rfl) (.int .i64 F.A)).setCell (p := ⟨B, 2, none⟩) (fun _ => rfl) (.slice ra F.n rc))
  clear pc0 pf0 pc1 pf1 pc2 pf2
  generalize ((((w1.alloc (.cells #[.string ⟨F.nm.toArray⟩, .int .i64 F.A, .slice ra F.n rc] 86)).alloc (.cells #[.string ⟨F.nm.toArray⟩, .int .i64 F.A, .int .i64 F.n, .int .i64 F.ts.length, .int .i64 F.d, .slice pa F.A pc] 138)).setCell ⟨B, 0, none⟩ (.string ⟨F.nm.toArray⟩)).setCell ⟨B, 1, none⟩ (.int .i64 F.A)).setCell ⟨B, 2, none⟩ (.slice ra F.n rc) = w2 at *
  have h0 : w2.heap[B]? = some (.cells #[.string ⟨F.nm.toArray⟩, .int .i64 F.A, .slice ra F.n rc] 86 (0, 0)) := HS2.out.get (k := 0) (by simp)
  have pc0 := cell_at (j := 0) h0 rfl; have pf0 := frozen_at (j := 0) h0; have pc1 := cell_at (j := 1) h0 rfl; have pf1 := frozen_at (j := 1) h0; have pc2 := cell_at (j := 2) h0 rfl; have pf2 := frozen_at (j := 2) h0
  have hlast : DPost l w (.returned (.tuple #[.agg #[.string ⟨F.nm.toArray⟩, .int .i64 F.A, .slice ra F.n rc], .int .i64 0])) w2 := ⟨.inr ⟨F, ra, rc, HGO.out, rfl, by
   obtain ⟨hs, h⟩ := HRO.out
   exact ⟨hs, h.close HW0.out HM2.out (fun b hb => hb) (fun b hb => by have h1 := HB.out; have h2 := HZ.out; omega)⟩⟩, HS2.out.md⟩
  refine bodyPost_ret (v := .tuple #[.agg #[.string ⟨F.nm.toArray⟩, .int .i64 F.A, .slice ra F.n rc], .int .i64 0]) ?_ rfl hlast
  clear hlast
  simp [results, Tryz.results69, go_sem, pc0, pc1, pc2]
end Go.Proofs.YtjoiaejbahdjkaaGreat
