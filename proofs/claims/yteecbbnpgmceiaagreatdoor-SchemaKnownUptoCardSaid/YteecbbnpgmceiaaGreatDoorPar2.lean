/-
  A region that draws its order and comes to a panic: the operations that do not wait for the one that panics yield their values; whatever the order, it panics.
-/
import Derived.Test.YteecbbnpgmceiaaGreatDoorOrd
import Derived.Test.YteecbbnpgmceiaaGreatDoorPar1
import Derived.Test.YteecbbnpgmceiaaGreatDoorOrdA
import Derived.RecoverIn
import Derived.RangeFuncLeaves
namespace Go.Mine
open Go Go.RowKit
section
variable {P : Program} {l : List Oper} {S : World → Prop} {Q : Exit → Act → World → Prop} {ds : List Deferred}
def PanP (ds : List Deferred) (Q : Exit → Act → World → Prop) : Exit → Act → World → Prop
  | .panic ch, a, w => a.defers = ds ∧ ∀ a' : Act, a'.defers = ds → Q (.panic ch) a' w
  | _, _, _ => False
theorem PanP.imp (e : Exit) (a : Act) (w : World) (h : PanP ds Q e a w) : Q e a w := by
  cases e <;> first | exact (h : False).elim | exact h.2 a h.1
/-- the operation panics -/
def PanStep (P : Program) (l : List Oper) (ds : List Deferred) (Q : Exit → Act → World → Prop) (y : Nat) (a : Act) (w : World) : Prop :=
  a.defers = ds ∧ ∃ o, l[y]? = some o ∧ Region.wanted o (yielded l.toArray a.tmps) = true ∧ o.wp P a w (fun _ _ => False) (PanP ds Q)
theorem put_defers (a : Act) (d : Option Tmp) (v : Value) : (a.put d v).defers = a.defers := by cases d <;> rfl
theorem pan_unput {o : Oper} (hs : ∀ cs b, o.op ≠ .select cs b) {a : Act} {w : World} {d : Option Tmp} {v : Value} (h1 : ∀ t, d = some t → t ∉ o.looksAt l.toArray)
    (h : o.wp P (a.put d v) w (fun _ _ => False) (PanP ds Q)) : o.wp P a w (fun _ _ => False) (PanP ds Q) := by
  unfold Oper.wp at *
  rw [execOp_put o hs a d v h1] at h
  generalize (execOp a.eval o).run P w = r at *
  have hp : ∀ (u : Option Tmp) (x : Value) (e : Exit) (w' : World), PanP ds Q e (a.put d v) w' → PanP ds Q e a w' := fun u x e w' hh => by
    cases e <;> first | exact hh | exact ⟨by rw [← put_defers a d v]; exact hh.1, hh.2⟩
  cases r with
  | halt x w1 => cases x <;> simp only [Oper.upon] at * <;> first | exact hp none default _ _ h | exact h
  | ok n w1 =>
    cases n <;> simp only [Oper.upon] at *
    case enter => exact h.mono fun e w2 hh => by cases e <;> first | exact hp none default _ _ hh | exact hh
    case row => exact h
theorem pan_back (hsel : Region.noSelect l.toArray = true) {y : Nat} {oy : Oper} (hy : l[y]? = some oy) : ∀ (r : List (Nat × Nat)) (a : Act) (w : World),
    (∀ x ∈ r, x.1 ≤ 1 ∧ ∃ ox, l[x.2]? = some ox ∧ ox.apart l.toArray oy = true) → wpOrd P l S (fun e a w => match e with | .normal => PanStep P l ds Q y a w | _ => False) r a w → PanStep P l ds Q y a w
  | [], a, w, _, h => h
  | x :: r, a, w, hr, h => by
    obtain ⟨hk, ox, hx, hap⟩ := hr x (by simp)
    obtain ⟨p1, p2, p3⟩ := Oper.apart_spec hap
    have sy := Region.noSelect_spec hsel y oy
    have sy' : ∀ cs b, oy.op ≠ .select cs b := fun cs b => sy cs b (by simpa using hy)
    have fin : ∀ v, PanStep P l ds Q y (a.put ox.dst v) w → PanStep P l ds Q y a w := by
      rintro v ⟨hd, o, ho, hw, h⟩
      rw [hy] at ho; cases ho
      rw [put_defers] at hd
      rw [wanted_put oy a ox.dst v p1] at hw
      exact ⟨hd, oy, hy, hw, pan_unput sy' p1 h⟩
    have h' : OrdStep P l S _ x (wpOrd P l S _ r) a w := h
    rcases h'.cases hx with ⟨v, _, h2⟩ | ⟨_, h2, _⟩
    · exact fin v (pan_back hsel hy r _ _ (fun x hx => hr x (by simp [hx])) h2)
    · omega
theorem ordStep_pure {Q' : Exit → Act → World → Prop} {x : Nat × Nat} {K : Act → World → Prop} {a : Act} {w : World} (hk : x.1 ≤ 1) (h : OrdStep P l S Q' x K a w) : wpOp P l.toArray Q x.2 K a w := by
  obtain ⟨o, ho, h⟩ := h
  unfold Go.wpOp
  have ho' : l.toArray[x.2]? = some o := by simpa using ho
  rw [ho']
  rcases h with ⟨hw, h⟩ | ⟨hw, h⟩
  · simp only [hw]; exact h
  · simp only [hw, if_true]
    left
    revert h
    obtain ⟨k, i⟩ := x
    rcases k with _ | _ | n <;> simp only
    · rintro ⟨v, h1, h2⟩; unfold Oper.wp; rw [h1 w]; exact h2
    · rintro ⟨hs, v, h1, h2⟩; unfold Oper.wp; rw [h1 w hs]; exact h2
    · simp at hk
structure PanInv (l : List Oper) (y : Nat) (r : List (Nat × Nat)) (listed : Array Bool) : Prop where
  size : listed.size = l.length
  lt : ∀ x ∈ r, x.2 < l.length
  nodup : (r.map (·.2)).Nodup
  left : ∀ i, i < l.length → (listed.getD i true = false ↔ (i ∈ r.map (·.2) ∨ i = y ∨ y ∈ (closure l).getD i []))
  down : DownC l listed
  pairs : pairsOk l (closure l) r = true
  kinds : ∀ x ∈ r, x.1 ≤ 1
  ny : y ∉ r.map (·.2)
  dy : ∀ x ∈ r, y ∉ (closure l).getD x.2 []
theorem wpAny_of_pan (hsel : Region.noSelect l.toArray = true) (hcl : closureOk l (closure l) = true) (hback : edgesBack l = true) {y : Nat} {oy : Oper} (hy : l[y]? = some oy)
    (hap : ∀ (i : Nat), i < l.length → i ≠ y → y ∉ (closure l).getD i [] → ((closure l).getD y []).contains i = true ∨ ∃ o, l[i]? = some o ∧ o.apart l.toArray oy = true) :
    ∀ (m : Nat) (r : List (Nat × Nat)) (listed : Array Bool) (a : Act) (w : World), r.length < m → PanInv l y r listed →
    wpOrd P l S (fun e a w => match e with | .normal => PanStep P l ds Q y a w | _ => False) r a w → wpAny P .any l.toArray Q m listed a w
  | 0, r, listed, a, w, hm, inv, h => by omega
  | m + 1, r, listed, a, w, hm, inv, h => by
    have hylt : y < l.length := (List.getElem?_eq_some_iff.1 hy).1
    have hyl : listed.getD y true = false := (inv.left y hylt).2 (.inr (.inl rfl))
    have hyf : listed.getD y false = false := by rw [getD_bool (by rw [inv.size]; exact hylt) false true]; exact hyl
    refine ⟨fun h0 => ?_, fun i hi => ?_⟩
    · exfalso
      obtain ⟨i, hi, hmin⟩ := exists_min ((List.range l.length).filter fun i => !(listed.getD i true)) (by
        intro e
        have : y ∈ (List.range l.length).filter fun i => !(listed.getD i true) := List.mem_filter.2 ⟨List.mem_range.2 hylt, by simpa using hyl⟩
        rw [e] at this; cases this)
      obtain ⟨hir, hif⟩ := List.mem_filter.1 hi
      have hlt := List.mem_range.1 hir
      have hif' : listed.getD i true = false := by simpa using hif
      have : i ∈ Region.ready .any l.toArray listed := by
        refine mem_ready.2 ⟨hif', l[i], by simp [hlt], fun e he hb => ?_⟩
        simp only [edgesBack, List.all_eq_true, List.mem_range] at hback
        have hb2 := hback i hlt
        rw [List.getElem?_eq_getElem hlt] at hb2
        simp only [List.all_eq_true, Bool.or_eq_true, Bool.not_eq_true', decide_eq_true_eq] at hb2
        have hlt2 : e.on < i := by
          rcases hb2 e (by simpa using he) with h | h
          · rw [hb] at h; cases h
          · exact h
        by_cases hl : listed.getD e.on true = true
        · rw [getD_bool (by rw [inv.size]; omega) false true]; exact hl
        · exfalso
          have := hmin e.on (List.mem_filter.2 ⟨List.mem_range.2 (by omega), by simpa using hl⟩)
          omega
      rw [h0] at this; cases this
    · obtain ⟨h1, o, ho, hall⟩ := mem_ready.1 hi
      have hlt : i < l.length := by
        have := (Array.getElem?_eq_some_iff.1 ho).1; simpa using this
      have hol : l[i]? = some o := by simpa using ho
      have hcli := closure_listed hcl inv.down i o hlt hol hall
      rcases (inv.left i hlt).1 h1 with hir | rfl | hD
      · obtain ⟨x, hx, rfl⟩ := List.mem_map.1 hir
        obtain ⟨pre, post, rfl⟩ := List.append_of_mem hx
        obtain ⟨hp1, hp2⟩ := pairsOk_app pre inv.pairs
        have hpre : ∀ z ∈ pre, okPair z.1 x.1 = true ∧ ∃ oz ox, l[z.2]? = some oz ∧ l[x.2]? = some ox ∧ oz.apart l.toArray ox = true := by
          intro z hz
          have hzx := hp2 z hz
          simp only [pairOk, Bool.or_eq_true, Bool.and_eq_true, List.contains_iff_mem] at hzx
          rcases hzx with hzx | ⟨h2, h3⟩
          · exfalso
            have hl := hcli z.2 hzx
            have hzl := inv.lt z (by simp [hz])
            have := (inv.left z.2 hzl).2 (.inl (by simp; exact .inl ⟨z.1, hz⟩))
            rw [getD_bool (by rw [inv.size]; exact hzl) true false, hl] at this
            cases this
          · refine ⟨h2, ?_⟩
            have hzl := inv.lt z (by simp [hz])
            rw [hol, List.getElem?_eq_getElem hzl] at h3
            simp only [Bool.and_eq_true] at h3
            exact ⟨l[z.2], o, by simp [hzl], hol, h3.1⟩
        refine wpOp_mono (fun a' w' h' => ?_) (ordStep_pure (inv.kinds x (by simp)) (wpOrd.front hsel pre hpre a w h))
        have hnd := inv.nodup
        simp only [List.map_append, List.map_cons] at hnd
        have hnd2 := (List.nodup_cons.1 (List.perm_middle.nodup_iff.1 hnd)).1
        have hxy : x.2 ≠ y := fun e => inv.ny (by rw [← e]; simp)
        refine wpAny_of_pan hsel hcl hback hy hap m _ _ _ _ (by simp at hm ⊢; omega) ⟨by simpa using inv.size, fun z hz => inv.lt z ?_, ?_, fun i hi => ?_, ?_, hp1, fun z hz => inv.kinds z ?_, fun hz => inv.ny ?_, fun z hz => inv.dy z ?_⟩ h'
        · rcases List.mem_append.1 hz with h | h <;> simp [h]
        · simp only [List.map_append]
          exact (List.nodup_cons.1 (List.perm_middle.nodup_iff.1 hnd)).2
        · by_cases e : x.2 = i
          · subst e
            constructor
            · intro hh; simp [inv.size, hlt] at hh
            · rintro (hh | hh | hh)
              · simp only [List.map_append] at hh; exact absurd hh hnd2
              · exact absurd hh hxy
              · exact absurd hh (inv.dy x (by simp))
          · rw [getD_set_ne true e, inv.left i hi]
            simp only [List.map_append, List.map_cons, List.mem_append, List.mem_cons]
            constructor
            · rintro ((h | h | h) | h)
              · exact .inl (.inl h)
              · exact absurd h.symm e
              · exact .inl (.inr h)
              · exact .inr h
            · rintro ((h | h) | h)
              · exact .inl (.inl h)
              · exact .inl (.inr (.inr h))
              · exact .inr h
        · intro k ok hk hok e he hb
          by_cases e1 : x.2 = k
          · subst e1
            rw [hol] at hok; cases hok
            exact getD_set_true (hall e he hb)
          · have hk' : listed.getD k false = true := by rwa [getD_set_ne false e1] at hk
            exact getD_set_true (inv.down k ok hk' hok e he hb)
        · rcases List.mem_append.1 hz with h | h <;> simp [h]
        · simp only [List.map_append, List.mem_append, List.map_cons, List.mem_cons] at hz ⊢
          rcases hz with h | h
          · exact .inl h
          · exact .inr (.inr h)
        · rcases List.mem_append.1 hz with h | h <;> simp [h]
      · have hr : ∀ x ∈ r, x.1 ≤ 1 ∧ ∃ ox, l[x.2]? = some ox ∧ ox.apart l.toArray oy = true := by
          intro x hx
          refine ⟨inv.kinds x hx, ?_⟩
          have hxl := inv.lt x hx
          rcases hap x.2 hxl (fun e => inv.ny (by rw [← e]; exact List.mem_map.2 ⟨x, hx, rfl⟩)) (inv.dy x hx) with hc | hc
          · exfalso
            have hl := hcli x.2 (List.contains_iff_mem.1 hc)
            have := (inv.left x.2 hxl).2 (.inl (List.mem_map.2 ⟨x, hx, rfl⟩))
            rw [getD_bool (by rw [inv.size]; exact hxl) true false, hl] at this
            cases this
          · exact hc
        obtain ⟨hd, o', ho', hw', hp⟩ := pan_back hsel hy r a w hr h
        rw [hol] at ho'; cases ho'
        unfold Go.wpOp
        rw [ho]
        simp only [hw', if_true]
        left
        have hp' : o.wp P a w (fun a' w' => wpAny P .any l.toArray Q m (listed.setIfInBounds i true) a' w') Q := by
          have h2 : o.wp P a w (fun a' w' => wpAny P .any l.toArray Q m (listed.setIfInBounds i true) a' w') (PanP ds Q) := Oper.wp_mono (fun _ _ h => h.elim) hp
          unfold Oper.wp at *
          generalize (execOp a.eval o).run P w = rr at *
          cases rr with
          | halt x w1 => cases x <;> simp only [Oper.upon] at * <;> first | exact PanP.imp _ _ _ h2 | exact h2
          | ok n w1 =>
            cases n <;> simp only [Oper.upon] at *
            case enter => exact h2.mono fun e w2 hh => by cases e <;> first | exact hh | exact PanP.imp _ _ _ hh | (obtain ⟨a', w', hh⟩ := hh; exact (hh : False).elim)
            case row => exact h2
        exact hp'
      · exfalso
        have := hcli y hD
        rw [hyf] at this; cases this
def panOk (l : List Oper) (y : Nat) (ord : List (Nat × Nat)) : Bool :=
  Region.noSelect l.toArray && closureOk l (closure l) && edgesBack l && decide (y < l.length) && decide (ord.length < l.length) && ord.all (fun x => decide (x.2 < l.length) && decide (x.1 ≤ 1) && x.2 != y && !((closure l).getD x.2 []).contains y) &&
    decide ((ord.map (·.2)).Nodup) && (List.range l.length).all (fun i => (ord.map (·.2)).contains i || i == y || ((closure l).getD i []).contains y) && pairsOk l (closure l) ord &&
    (List.range l.length).all (fun i => i == y || ((closure l).getD i []).contains y || ((closure l).getD y []).contains i || match l[i]?, l[y]? with | some o, some oy => o.apart l.toArray oy | _, _ => false)
/-- A REGION THAT DRAWS ITS ORDER and comes to a panic at operation y -/
theorem wp_region_pan {id : Nat} {a : Act} {w : World} (S : World → Prop) (y : Nat) (ord : List (Nat × Nat)) (hm : P.follows .mixedOrders = true) (hB : panOk l y ord = true)
    (h : wpOrd P l S (fun e a' w' => match e with | .normal => PanStep P l a.defers Q y a' w' | _ => False) ord a w.drew) : (Code.region id l.toArray true).wp P Q a w := by
  simp only [panOk, Bool.and_eq_true, List.all_eq_true, decide_eq_true_eq, List.mem_range, Bool.or_eq_true, bne_iff_ne, beq_iff_eq, Bool.not_eq_true', List.contains_iff_mem] at hB
  obtain ⟨⟨⟨⟨⟨⟨⟨⟨⟨h1, h2⟩, h3⟩, h4⟩, hlen⟩, h5⟩, h6⟩, h7⟩, h8⟩, h9⟩ := hB
  refine wp_region_any hm ?_
  have hns : ∀ x ∈ ord, y ∉ (closure l).getD x.2 [] := fun x hx hh => by
    have := (h5 x hx).2
    rw [List.contains_eq_mem] at this
    simp at this
    exact this hh
  have := wpAny_of_pan (P := P) (S := S) (Q := Q) (ds := a.defers) h1 h2 h3 (y := y) (oy := l[y]) (by simp [h4]) (fun i hi hy hny => ?_) l.length ord (Array.replicate l.length false) a w.drew hlen
    ⟨by simp, fun x hx => (h5 x hx).1.1.1, h6, fun i hi => ?_, fun k o hk => ?_, h8, fun x hx => (h5 x hx).1.1.2, fun hh => by obtain ⟨x, hx, e⟩ := List.mem_map.1 hh; exact (h5 x hx).1.2 e, hns⟩ h
  · simpa using this
  · rcases h9 i hi with ((h | h) | h) | h
    · exact absurd h hy
    · exact absurd h hny
    · exact .inl (List.contains_iff_mem.2 h)
    · refine .inr ⟨l[i], by simp [hi], ?_⟩
      rw [List.getElem?_eq_getElem hi, List.getElem?_eq_getElem h4] at h
      exact h
  · simp only [Array.getD_eq_getD_getElem?, Array.getElem?_replicate, hi, if_true, Option.getD_some, true_iff]
    rcases h7 i hi with (h | h) | h
    · exact .inl h
    · exact .inr (.inl h)
    · exact .inr (.inr h)
  · exfalso
    simp [Array.getD_eq_getD_getElem?, Array.getElem?_replicate] at hk
    split at hk <;> simp at hk
theorem pan_step {o : Oper} {y : Nat} {a : Act} {w : World} (ho : l[y]? = some o) (hd : a.defers = ds) (hw : Region.wanted o (yielded l.toArray a.tmps) = true)
    (h : o.wp P a w (fun _ _ => False) (PanP ds Q)) : PanStep P l ds Q y a w := ⟨hd, o, ho, hw, h⟩
end
end Go.Mine
/-
  The parser: terms, atoms.
-/
namespace Go.Proofs.YteecbbnpgmceiaaGreatDoor
open Go Go.RowKit Go.Mine
set_option linter.unusedVariables false
set_option maxHeartbeats 1000000
set_option maxRecDepth 100000

structure TmI (E : Env) (w0 W : World) (k : Nat) (ag : Bool) (pred : ByteArray) (acc : List Tm) (a : Option Addr) (c : Nat) : Prop where
  base : ∃ k0 ag0, PSt w0 E k0 ag0
  st : PSt W E k ag
  md : Mod E.Ch w0 W
  b0 : W.heap[w0.heap.size]? = some (.cells #[.string ⟨#[]⟩, .slice none 0 0] 43 (0, 0))
  b1 : W.heap[w0.heap.size + 1]? = some (.cells #[.string pred, .slice a acc.length c] 43 (0, 0))
  own : Mine.Own W 100 2 a acc.length c (tmsC acc)
  fr : ∀ b, blk a = some b → w0.heap.size + 2 ≤ b
section
variable {E : Env} {w0 W W' : World} {k k' c c' : Nat} {ag ag' : Bool} {pred : ByteArray} {acc : List Tm} {a a' : Option Addr}
theorem TmI.call (h : TmI E w0 W k ag pred acc a c) (hs : PSt W' E k' ag') (m : Mod E.Ch W W') : TmI E w0 W' k' ag' pred acc a c := by
  obtain ⟨k0, ag0, h0⟩ := h.base
  exact ⟨h.base, hs, h.md.trans m, m.at h.b0 (h0.nch (Nat.le_refl _)), m.at h.b1 (h0.nch (by omega)), h.own.mod m (fun b hb => h0.nch (by have := h.fr b hb; omega)), h.fr⟩
theorem TmI.alloc (h : TmI E w0 W k ag pred acc a c) (o : Obj) : TmI E w0 (W.alloc o) k ag pred acc a c := h.call (h.st.alloc o) ((Mod.refl _ W).alloc o)
theorem TmI.len (h : TmI E w0 W k ag pred acc a c) : w0.heap.size + 2 ≤ W.heap.size := by
  have := (Array.getElem?_eq_some_iff.1 h.b1).1; omega
/-- one term more -/
theorem TmI.step (h : TmI E w0 W k ag pred acc a c) {W1 : World} (t : Tm) {us : List Value} (hu : us = tmC t) (ho : Mine.Own W1 100 2 a' (acc.length + 1) c' (tmsC acc ++ us)) (hg : ∃ W2, Mod (fun _ => False) W W2 ∧ Grow W2 a W1 a') :
    TmI E w0 (W1.setCell ⟨w0.heap.size + 1, 1, none⟩ (.slice a' (acc.length + 1) c')) k ag pred (acc ++ [t]) a' c' := by
  obtain ⟨k0, ag0, h0⟩ := h.base
  obtain ⟨W2, m2, hg⟩ := hg
  have hl := h.len
  have mF : Mod (Far w0) W W1 := (m2.mono fun _ _ f => f.elim).step hg.mod (fun i _ hi => by have := h.fr i hi; unfold Far; omega)
  have hfr : ∀ b, blk a' = some b → w0.heap.size + 2 ≤ b := by
    intro b hb
    rcases hg.pos with e | ⟨b', e, hb'⟩
    · rw [e] at hb; exact h.fr b hb
    · rw [e] at hb; cases hb; have := m2.size; omega
  have m3 : Mod (Far w0) W (W1.setCell ⟨w0.heap.size + 1, 1, none⟩ (.slice a' (acc.length + 1) c')) := mF.setCell (p := ⟨w0.heap.size + 1, 1, none⟩) (fun _ => by unfold Far; simp) _
  have m4 : Mod (fun b => b = w0.heap.size + 1) W1 (W1.setCell ⟨w0.heap.size + 1, 1, none⟩ (.slice a' (acc.length + 1) c')) := (Mod.refl (fun b => b = w0.heap.size + 1) W1).setCell (p := ⟨w0.heap.size + 1, 1, none⟩) (fun _ => rfl) _
  have b0 := hg.mod.at (m2.at h.b0 id) (fun e => by have := h.fr _ e; omega)
  have b1 := hg.mod.at (m2.at h.b1 id) (fun e => by have := h.fr _ e; omega)
  have hlen : (acc ++ [t]).length = acc.length + 1 := by simp
  refine ⟨h.base, h0.far h.st m3, Mod.far h.md m3, m4.at b0 (by omega), ?_, ?_, hfr⟩
  · have := heap_setCell_at (j := 1) (.slice a' (acc.length + 1) c') b1
    rw [hlen]; exact this
  · rw [hlen, tmsC_append]
    subst hu
    have := ho.mod m4 (fun b hb e => by have := hfr b hb; omega)
    simpa [tmsC] using this
end
def ResAm (E : Env) (lo : Nat) (r : Am × Nat × Bool) (e : Ending) (w' : World) : Prop :=
  ∃ v bs, e = .returned (.agg #[.string r.1.pred, v]) ∧ TsF w' lo v r.1.terms bs ∧ PSt w' E r.2.1 r.2.2
def amOf (pred : ByteArray) (r : List Tm × Nat × Bool) : PR (Am × Nat × Bool) := .ok (⟨pred, r.1⟩, r.2.1, r.2.2)
structure OneOk (E : Env) (head : Bool) (F : FuncId) : Prop where
  enters : ∀ (args : Array Value) (w : World), (callFunc F args).run Tryz.prog w = .ok (.enter F args) w
  calls : ∀ (k : Nat) (ag : Bool) (w : World), PSt w E k ag → Calls Tryz.prog F #[.pointer (some ⟨E.bp, 0, none⟩)] w (PP E w (oneP head E.S k ag) (ResPt E))
theorem one_part (E : Env) : OneOk E true 113 := ⟨fun _ _ => by go_simp, fun k ag w h => synPart_any E k ag w h⟩
theorem one_term (E : Env) : OneOk E false 64 := ⟨fun _ _ => by go_simp, fun k ag w h => (term_is E k ag w h).mono fun e w' h => by
  rcases h with ⟨x, h1, h2, h3⟩ | ⟨r, h1, h2, h3⟩
  · exact .inl ⟨x, by unfold oneP; rw [if_neg (by simp), h1]; rfl, h2, h3⟩
  · exact .inr ⟨(r.1, r.2, ag), by unfold oneP; rw [if_neg (by simp), h1]; rfl, h2, h3⟩⟩
theorem want3 (E : Env) (k : Nat) (agg : Bool) (w : World) (h : PSt w E k agg) (g : Nat) (hg : g = w.heap.size := by first | rfl | simp) :
    Calls Tryz.prog 105 #[.pointer (some ⟨E.bp, 0, none⟩), .slice (some ⟨g, 0, none⟩) 3 3] (w.alloc (.cells #[.int .i64 1, .int .i64 2, .int .i64 3] 3)) fun e w' => ((∃ x, wantP E.S k [1, 2, 3] = .error x ∧ e = .panicked (wrongE x)) ∨ (wantP E.S k [1, 2, 3] = .ok () ∧ e = .returned (.tuple #[]))) ∧ w.alloc (.cells #[.int .i64 1, .int .i64 2, .int .i64 3] 3) = w' := by
  subst hg
  exact want_any E k agg (some ⟨w.heap.size, 0, none⟩) 3 [1, 2, 3] _ (h.alloc _) (Rd.news w [.int .i64 1, .int .i64 2, .int .i64 3] _) (by simp)
theorem want_in {S : Toks} {k : Nat} {ks : List Nat} (h : wantP S k ks = .ok ()) (h0 : ks.contains 0 = false) : k < S.ts.length := by
  cases hb : S.bad k with
  | true => rw [wantP_bad hb] at h; cases h
  | false =>
    cases hc : ks.contains (S.tok k).kind with
    | true => exact in_of (b := true) hc h0
    | false => rw [wantP_no hb hc] at h; cases h

theorem terms_any (E : Env) (head : Bool) (F : FuncId) (HF : OneOk E head F) (k : Nat) (agg : Bool) (pred : ByteArray) (w : World) (h : PSt w E k agg) :
    Calls Tryz.prog 120 #[.pointer (some ⟨E.bp, 0, none⟩), .string pred, .func (.func F) #[] #[]] w (PP E w ((termsP head E.S k agg).bind (amOf pred)) (ResAm E w.heap.size)) := by
  have h0 := (h.alloc (.cells #[.string ⟨#[]⟩, .slice none 0 0] 43)).alloc (.cells #[.string pred, .slice none 0 0] 43)
  have m0 : Mod E.Ch w ((w.alloc (.cells #[.string ⟨#[]⟩, .slice none 0 0] 43)).alloc (.cells #[.string pred, .slice none 0 0] 43)) := ((Mod.refl _ w).alloc _).alloc _
  have b0 : ((w.alloc (.cells #[.string ⟨#[]⟩, .slice none 0 0] 43)).alloc (.cells #[.string pred, .slice none 0 0] 43)).heap[w.heap.size]? = some (.cells #[.string ⟨#[]⟩, .slice none 0 0] 43 (0, 0)) := ((Mod.refl (fun _ => False) _).alloc _).at (heap_alloc_new w _) id
  have b1 : ((w.alloc (.cells #[.string ⟨#[]⟩, .slice none 0 0] 43)).alloc (.cells #[.string pred, .slice none 0 0] 43)).heap[w.heap.size + 1]? = some (.cells #[.string pred, .slice none 0 0] 43 (0, 0)) := by
    have := heap_alloc_new (w.alloc (.cells #[.string ⟨#[]⟩, .slice none 0 0] 43)) (.cells #[.string pred, .slice none 0 0] 43)
    simpa using this
  have hI : TmI E w _ k agg pred [] none 0 := ⟨⟨_, _, h⟩, h0, m0, b0, b1, Mine.Own.nil _ _ _, by simp⟩
  have HI4 := Lib.hid (is1 E k agg 4 _ h0 (w.heap.size + 1 + 1) 4)
  have HT := Lib.hid (hI.alloc (.cells #[.int .i64 4] 3))
  have HD : Hid (termsP head E.S k agg = (isP E.S k [4]).bind fun o => if o = false then .ok ([], k, agg) else
    (termsGo head E.S 65 k agg []).bind fun r => (markP E.S r.2.1 5).bind fun k3 => .ok (r.1, k3, r.2.2)) := rfl
  have H := Lib.hid h
  clear h h0 m0 b0 b1 hI
  go_enter Tryz.func120, Tryz.ntmps120
  go_wp2_with fail
  refine (HI4.out).mono ?_
  rintro e w' ⟨(⟨x, hx, rfl⟩ | ⟨b, hx, rfl⟩), rfl⟩
  · have HX := Lib.hid hx; clear hx
    go_wp2_with fail
    exact ⟨rfl, .inl ⟨x, by rw [HD.out, HX.out]; rfl, rfl, HT.out.md⟩⟩
  obtain ⟨v1, hv1⟩ : ∃ v1, v1 = (((w.alloc (.cells #[.string ⟨#[]⟩, .slice none 0 0] 43)).alloc (.cells #[.string pred, .slice none 0 0] 43)).alloc (.cells #[.int .i64 4] 3)) := ⟨_, rfl⟩
  rw [← hv1] at HT ⊢
  clear hv1 HI4
  cases b with
  | false =>
    have HX := Lib.hid (show (termsP head E.S k agg).bind (amOf pred) = .ok (⟨pred, []⟩, k, agg) by rw [HD.out, hx]; rfl)
    have c0 := cell_at (j := 0) HT.out.b0 rfl
    have c1 := cell_at (j := 1) HT.out.b0 rfl
    have f0 : v1.frozen? ⟨w.heap.size, 0, none⟩ = false := frozen_at HT.out.b0
    have f1 : v1.frozen? ⟨w.heap.size, 1, none⟩ = false := frozen_at HT.out.b0
    have d0 := cell_at (j := 0) HT.out.b1 rfl
    have d1 := cell_at (j := 1) HT.out.b1 rfl
    clear hx
    go_wp2_with fail
    obtain ⟨w9, hw9⟩ : ∃ w9, w9 = (((v1).setCell ⟨w.heap.size, 0, none⟩ (.string pred)).setCell ⟨w.heap.size, 1, none⟩ (.slice none 0 0)) := ⟨_, rfl⟩
    have b9 : w9.heap[w.heap.size]? = some (.cells #[.string pred, .slice none 0 0] 43 (0, 0)) := by rw [hw9]; exact heap_setCell_at (j := 1) (.slice none 0 0) (heap_setCell_at (j := 0) (.string pred) (HT.out.b0))
    have m9 : Mod (fun b => b = w.heap.size) (v1) w9 := by rw [hw9]; exact ((Mod.refl (fun b => b = w.heap.size) _).setCell (p := ⟨w.heap.size, 0, none⟩) (fun _ => rfl) _).setCell (p := ⟨w.heap.size, 1, none⟩) (fun _ => rfl) _
    have mF : Mod (Far w) (v1) w9 := m9.mono fun _ _ e => Nat.le_of_eq e.symm
    rw [← hw9]
    clear hw9
    have e0 := cell_at (j := 0) b9 rfl
    have e1 := cell_at (j := 1) b9 rfl
    refine bodyPost_ret (v := .agg #[.string pred, .slice none 0 0]) (by simp [results, Tryz.results120, go_sem, e0, e1]) rfl ?_
    exact .inr ⟨_, HX.out, ⟨_, [], rfl, ⟨none, rfl, Clp.of (Mine.Own.nil _ _ _), rfl, by simp⟩, H.out.far HT.out.st mF⟩, Mod.far HT.out.md mF⟩
  | true =>
    have hlt := is_in hx (by omega)
    have HXe : Hid (∀ x, termsGo head E.S 65 k agg [] = .error x → (termsP head E.S k agg).bind (amOf pred) = .error x) := fun x h => by rw [HD.out, hx, bind_ok', if_neg (by simp), h]; rfl
    have HXm : Hid (∀ r, termsGo head E.S 65 k agg [] = .ok r → (termsP head E.S k agg).bind (amOf pred) = (markP E.S r.2.1 5).bind fun k3 => .ok (⟨pred, r.1⟩, k3, r.2.2)) := fun r h => by
      rw [HD.out, hx, bind_ok', if_neg (by simp), h, bind_ok', bind_assoc']; rfl
    clear hx HD
    go_wp2_with fail
    go_loopg [] 65 (fun n wr => ∃ (k' : Nat) (ag' : Bool) (acc : List Tm) (a : Option Addr) (c : Nat), n + acc.length = 65 ∧ 0 < n ∧ k' < E.S.ts.length ∧ Hid (TmI E w wr k' ag' pred acc a c) ∧ Hid (termsGo head E.S 65 k agg [] = termsGo head E.S n k' ag' acc))
    case atStart => exact ⟨k, agg, [], none, 0, rfl, by omega, hlt, HT, Lib.hid rfl⟩
    case round =>
      obtain ⟨k', ag', acc, a, c, hn, hpos, hlt', hI, hL⟩ := hrel
      clear hlt HT
      obtain ⟨n, rfl⟩ : ∃ n, gk = n + 1 := ⟨gk - 1, by omega⟩
      have HS := Lib.hid (step_any E k' ag' wr hI.out.st hlt')
      go_wp2_with fail
      refine HS.out.mono ?_
      rintro e w2 ⟨rfl, hS, hM⟩
      have HT2 := Lib.hid (hI.out.call hS hM)
      clear hS hM HS hI
      have HW := Lib.hid (want3 E (k' + 1) ag' w2 HT2.out.st w2.heap.size)
      have HT3 := Lib.hid (HT2.out.alloc (.cells #[.int .i64 1, .int .i64 2, .int .i64 3] 3))
      have HG := Lib.hid (termsGo.eq_2 head E.S k' ag' acc n)
      go_wp2_with fail
      refine HW.out.mono ?_
      rintro e w' ⟨(⟨x, hx, rfl⟩ | ⟨hx, rfl⟩), rfl⟩
      · have HX := Lib.hid hx; clear hx
        go_wp2_with fail
        exact ⟨rfl, .inl ⟨x, HXe.out x (by rw [hL.out, HG.out, HX.out]; rfl), rfl, HT3.out.md⟩⟩
      have hlt2 := want_in hx (by decide)
      have HG2 := Lib.hid (show termsGo head E.S (n + 1) k' ag' acc = (if acc.length = 64 then .error (83, (E.S.tok (k' + 1)).at_) else
        (oneP head E.S (k' + 1) ag').bind fun r => (isP E.S r.2.1 [6]).bind fun c => if c = true then termsGo head E.S n r.2.1 r.2.2 (acc ++ [r.1]) else .ok (acc ++ [r.1], r.2.1, r.2.2)) by rw [HG.out, hx, bind_ok'])
      obtain ⟨w3, hw3⟩ : ∃ w3, w3 = w2.alloc (.cells #[.int .i64 1, .int .i64 2, .int .i64 3] 3) := ⟨_, rfl⟩
      rw [← hw3] at HT3 ⊢
      clear hw3 HW HT2 hx HG
      have d1 := cell_at (j := 1) HT3.out.b1 rfl
      by_cases h64 : acc.length = 64
      · have HX := Lib.hid (HXe.out _ (by rw [hL.out, HG2.out, if_pos h64]))
        have HGV := Lib.hid (give_any E (k' + 1) ag' 83 w3 HT3.out.st)
        rw [h64] at d1
        go_wp2_with fail
        refine HGV.out.mono ?_
        rintro e w' ⟨rfl, rfl⟩
        go_wp2_with fail
        exact ⟨rfl, .inl ⟨_, HX.out, rfl, HT3.out.md⟩⟩
      · have h64b : acc.length < 64 := by omega
        have HG3 := Lib.hid (HG2.out.trans (if_neg h64))
        clear HG2 h64
        cases ho : oneP head E.S (k' + 1) ag' with
        | error x =>
          have HX := Lib.hid (HXe.out x (by rw [hL.out, HG3.out, ho]; rfl))
          have HC : Hid (∀ W, Mod (fun _ => False) w3 W → Calls Tryz.prog F #[.pointer (some ⟨E.bp, 0, none⟩)] W fun e w' => e = .panicked (wrongE x) ∧ Mod E.Ch w3 w') := fun W hm => (HF.calls (k' + 1) ag' W (HT3.out.st.mod0 hm)).mono fun e w' h => by
            rcases h with ⟨y, h1, h2, h3⟩ | ⟨r, h1, _⟩
            · rw [ho] at h1; cases h1; exact ⟨h2, (hm.mono fun _ _ f => f.elim).trans h3⟩
            · rw [ho] at h1; cases h1
          have hen := HF.enters
          clear ho
          go_wp2_with fail
          refine wp_region_pan (fun w' => w'.cell? ⟨w.heap.size + 1, 1, none⟩ = some (.slice a acc.length c)) 4 [(0, 0), (1, 1), (0, 2), (0, 3)] (by kernel_rfl) (by kernel_rfl) ?_
          go_wp2_with (first
            | (refine ord_pure rfl rfl rfl (fun K hK => ?_); go_big_quiet_op; refine hK _ ?_; clear hK K)
                        | (refine ord_skip rfl rfl ?_; simp only [Act.put, List.setIfInBounds_toArray, List.set_cons_zero, List.set_cons_succ])
                        | (refine ord_held rfl rfl rfl (by simpa using d1) (fun K hK => ?_); apply Exists.intro; refine ⟨fun w' hs => ?_, hK _ ?_⟩; (revert hs; dsimp only; (try simp only [and_imp]); intros; go_simp; rfl); clear hK K)
                        | (refine ord_keep rfl rfl (by simpa using d1) (fun K hK => ?_))
                        | (refine ord_drop rfl rfl (fun K hK => ?_))
                        | (refine ord_nil ?_))
          refine pan_step rfl rfl rfl ?_
          go_simp
          refine (HC.out _ (Mod.refl _ _).drew).mono ?_
          rintro e w' ⟨rfl, hM⟩
          exact ⟨rfl, fun a' ha => ⟨ha, .inl ⟨x, HX.out, rfl, HT3.out.md.trans hM⟩⟩⟩
        | ok r =>
          obtain ⟨⟨tk, tt⟩, k2, ag2⟩ := r
          have HG4 := Lib.hid (show termsGo head E.S (n + 1) k' ag' acc = (isP E.S k2 [6]).bind fun c => if c = true then termsGo head E.S n k2 ag2 (acc ++ [⟨tk, tt⟩]) else .ok (acc ++ [⟨tk, tt⟩], k2, ag2) by rw [HG3.out, ho]; rfl)
          have HC : Hid (∀ W, Mod (fun _ => False) w3 W → Calls Tryz.prog F #[.pointer (some ⟨E.bp, 0, none⟩)] W fun e w' => e = .returned (.agg #[.int .i64 tk, .string tt]) ∧ PSt w' E k2 ag2 ∧ Mod E.Ch w3 w') := fun W hm => (HF.calls (k' + 1) ag' W (HT3.out.st.mod0 hm)).mono fun e w' h => by
            rcases h with ⟨y, h1, h2, h3⟩ | ⟨r, h1, h2, h3⟩
            · rw [ho] at h1; cases h1
            · rw [ho] at h1; cases h1; exact ⟨h2.1, h2.2, (hm.mono fun _ _ f => f.elim).trans h3⟩
          have hen := HF.enters
          clear ho HG3
          go_wp2_with fail
          refine wp_region_ord (fun w' => w'.cell? ⟨w.heap.size + 1, 1, none⟩ = some (.slice a acc.length c)) [(0, 0), (1, 1), (0, 2), (0, 3), (2, 4), (2, 5), (3, 6), (0, 7), (3, 8)] (by kernel_rfl) (by kernel_rfl) ?_
          go_wp2_with (first
            | (refine ord_pure rfl rfl rfl (fun K hK => ?_); go_big_quiet_op; refine hK _ ?_; clear hK K)
                        | (refine ord_skip rfl rfl ?_; simp only [Act.put, List.setIfInBounds_toArray, List.set_cons_zero, List.set_cons_succ])
                        | (refine ord_held rfl rfl rfl (by simpa using d1) (fun K hK => ?_); apply Exists.intro; refine ⟨fun w' hs => ?_, hK _ ?_⟩; (revert hs; dsimp only; (try simp only [and_imp]); intros; go_simp; rfl); clear hK K)
                        | (refine ord_keep rfl rfl (by simpa using d1) (fun K hK => ?_))
                        | (refine ord_drop rfl rfl (fun K hK => ?_))
                        | (refine ord_nil ?_))
          refine (HC.out _ (Mod.refl _ _).drew).mono ?_
          rintro e w4 ⟨rfl, hS4, hM4⟩
          have HT4 := Lib.hid (HT3.out.call hS4 hM4)
          have d1 := cell_at (j := 1) HT4.out.b1 rfl
          refine hK _ _ d1 ?_
          clear hK K hS4 hM4 HC
          go_wp2_with (first
            | (refine ord_pure rfl rfl rfl (fun K hK => ?_); go_big_quiet_op; refine hK _ ?_; clear hK K)
                        | (refine ord_skip rfl rfl ?_; simp only [Act.put, List.setIfInBounds_toArray, List.set_cons_zero, List.set_cons_succ])
                        | (refine ord_held rfl rfl rfl (by simpa using d1) (fun K hK => ?_); apply Exists.intro; refine ⟨fun w' hs => ?_, hK _ ?_⟩; (revert hs; dsimp only; (try simp only [and_imp]); intros; go_simp; rfl); clear hK K)
                        | (refine ord_keep rfl rfl (by simpa using d1) (fun K hK => ?_))
                        | (refine ord_drop rfl rfl (fun K hK => ?_))
                        | (refine ord_nil ?_))
          have m5 : Mod (fun _ => False) w4 (w4.alloc (.cells #[.int .i64 tk, .string tt] 100)) := (Mod.refl _ w4).alloc _
          have d15 := m5.cell d1 id
          refine hK _ _ d15 ?_
          clear hK K
          have HO5 := Lib.hid (HT4.out.own.mod m5 (fun _ _ => id))
          go_wp2_with (first
            | (refine ord_drop rfl rfl (fun K hK => ?_); refine wpO_append (.tmp 27) (.tmp 31) 41 41 rfl tiT rfl HO5.out rfl (Src.ofRd tiT.ht 1 1 (Rd.news w4 [_, _] 100) (by simp) (by simp [Value.oneCell'])) (by omega) (by unfold maxLen; omega) ?_; intro a3 c3 w5 hO3 hG3 _
               have hb5 := hG3.mod.at (m5.at HT4.out.b1 id) (fun e => by have := HT4.out.fr _ e; omega)
               have g5 := cell_at (j := 1) hb5 rfl
               have q5 : w5.frozen? ⟨w.heap.size + 1, 1, none⟩ = false := frozen_at hb5
               have HO3 := Lib.hid hO3; have HG5 := Lib.hid hG3; have HM5 := Lib.hid m5
               clear hO3 hG3 hb5 m5 d15 d1 HO5
               refine hK _ _ ?_; clear hK K)
            | (refine ord_pure rfl rfl rfl (fun K hK => ?_); go_big_quiet_op; refine hK _ ?_; clear hK K)
                        | (refine ord_skip rfl rfl ?_; simp only [Act.put, List.setIfInBounds_toArray, List.set_cons_zero, List.set_cons_succ])
                        | (refine ord_held rfl rfl rfl (by simpa using d15) (fun K hK => ?_); apply Exists.intro; refine ⟨fun w' hs => ?_, hK _ ?_⟩; (revert hs; dsimp only; (try simp only [and_imp]); intros; go_simp; rfl); clear hK K)
                        | (refine ord_keep rfl rfl (by simpa using d15) (fun K hK => ?_))
                        | (refine ord_drop rfl rfl (fun K hK => ?_))
                        | (refine ord_nil ?_))
          have hT6 := HT4.out.step ⟨tk, tt⟩ rfl HO3.out ⟨_, HM5.out, HG5.out⟩
          obtain ⟨w6, hw6⟩ : ∃ w6, w6 = w5.setCell ⟨w.heap.size + 1, 1, none⟩ (.slice a3 (acc.length + 1) c3) := ⟨_, rfl⟩
          have hz6 : w5.heap.size = w6.heap.size := by rw [hw6]; simp
          rw [← hw6] at hT6 ⊢
          rw [hz6]
          clear hz6 hw6 HO3 HG5 HM5 HT4 g5 q5
          have HT6 := Lib.hid hT6; clear hT6
          have HI6 := Lib.hid (is1 E k2 ag2 6 _ HT6.out.st w6.heap.size 6)
          have HT7 := Lib.hid (HT6.out.alloc (.cells #[.int .i64 6] 3))
          refine HI6.out.mono ?_
          rintro e w' ⟨(⟨x, hx, rfl⟩ | ⟨b, hx, rfl⟩), rfl⟩
          · have HX := Lib.hid (HXe.out x (by rw [hL.out, HG4.out, hx]; rfl)); clear hx
            go_wp2_with fail
            exact ⟨rfl, .inl ⟨x, HX.out, rfl, HT7.out.md⟩⟩
          obtain ⟨w7, hw7⟩ : ∃ w7, w7 = w6.alloc (.cells #[.int .i64 6] 3) := ⟨_, rfl⟩
          rw [← hw7] at HT7 ⊢
          clear hw7 HT6 HI6
          cases b with
          | true =>
            have hlt7 := is_in hx (by omega)
            have HL2 := Lib.hid (show termsGo head E.S 65 k agg [] = termsGo head E.S n k2 ag2 (acc ++ [⟨tk, tt⟩]) by rw [hL.out, HG4.out, hx]; rfl)
            clear hx
            go_wp2_with fail
            go_roundg n
            case measure => omega
            case rel => exact ⟨k2, ag2, acc ++ [⟨tk, tt⟩], a3, c3, by simp; omega, by omega, hlt7, HT7, HL2⟩
          | false =>
            have HXF := Lib.hid (HXm.out _ (show termsGo head E.S 65 k agg [] = .ok (acc ++ [⟨tk, tt⟩], k2, ag2) by rw [hL.out, HG4.out, hx]; rfl))
            have HMK := Lib.hid (mark_any E k2 ag2 5 _ HT7.out.st (by omega))
            clear hx
            go_wp2_with fail
            refine HMK.out.mono ?_
            rintro e w8 (⟨x, hx, rfl, hM⟩ | ⟨k3, hx, ⟨rfl, hS⟩, hM⟩)
            · have HX := Lib.hid (show (termsP head E.S k agg).bind (amOf pred) = .error x by rw [HXF.out, hx]; rfl)
              have HM := Lib.hid (HT7.out.md.trans hM); clear hx hM
              go_wp2_with fail
              exact ⟨rfl, .inl ⟨x, HX.out, rfl, HM.out⟩⟩
            have HX := Lib.hid (show (termsP head E.S k agg).bind (amOf pred) = .ok (⟨pred, acc ++ [⟨tk, tt⟩]⟩, k3, ag2) by rw [HXF.out, hx]; rfl)
            have HT8 := Lib.hid (HT7.out.call hS hM)
            clear hx hS hM HT7 HMK HXF
            have hl2 : (acc ++ [(⟨tk, tt⟩ : Tm)]).length < 2 ^ 30 := by simp; omega
            generalize (acc ++ [(⟨tk, tt⟩ : Tm)]) = acc2 at *
            have HCL := Lib.hid (clipT_any a3 acc2.length c3 _ w8 HT8.out.own hl2)
            have c0 := cell_at (j := 0) HT8.out.b0 rfl
            have c1 := cell_at (j := 1) HT8.out.b0 rfl
            have f0 : w8.frozen? ⟨w.heap.size, 0, none⟩ = false := frozen_at HT8.out.b0
            have f1 : w8.frozen? ⟨w.heap.size, 1, none⟩ = false := frozen_at HT8.out.b0
            have d0 := cell_at (j := 0) HT8.out.b1 rfl
            have d1 := cell_at (j := 1) HT8.out.b1 rfl
            have q1 : w8.frozen? ⟨w.heap.size + 1, 1, none⟩ = false := frozen_at HT8.out.b1
            go_wp2_with fail
            refine HCL.out.mono ?_
            rintro e w' ⟨rfl, rfl⟩
            go_wp2_with fail
            have mS : Mod (fun b => b = w.heap.size + 1) w8 (w8.setCell ⟨w.heap.size + 1, 1, none⟩ (.slice a3 acc2.length acc2.length)) := (Mod.refl (fun b => b = w.heap.size + 1) w8).setCell (p := ⟨w.heap.size + 1, 1, none⟩) (fun _ => rfl) _
            have mSF : Mod (Far w) w8 (w8.setCell ⟨w.heap.size + 1, 1, none⟩ (.slice a3 acc2.length acc2.length)) := mS.mono fun _ _ e => by unfold Far; omega
            have HB := Lib.hid (mS.at HT8.out.b0 (by omega))
            obtain ⟨w9, hw9⟩ : ∃ w9, w9 = (((w8.setCell ⟨w.heap.size + 1, 1, none⟩ (.slice a3 acc2.length acc2.length)).setCell ⟨w.heap.size, 0, none⟩ (.string pred)).setCell ⟨w.heap.size, 1, none⟩ (.slice a3 acc2.length acc2.length)) := ⟨_, rfl⟩
            have b9 : w9.heap[w.heap.size]? = some (.cells #[.string pred, .slice a3 acc2.length acc2.length] 43 (0, 0)) := by rw [hw9]; exact heap_setCell_at (j := 1) (.slice a3 acc2.length acc2.length) (heap_setCell_at (j := 0) (.string pred) (HB.out))
            have m9 : Mod (fun b => b = w.heap.size) (w8.setCell ⟨w.heap.size + 1, 1, none⟩ (.slice a3 acc2.length acc2.length)) w9 := by rw [hw9]; exact ((Mod.refl (fun b => b = w.heap.size) _).setCell (p := ⟨w.heap.size, 0, none⟩) (fun _ => rfl) _).setCell (p := ⟨w.heap.size, 1, none⟩) (fun _ => rfl) _
            have mF : Mod (Far w) (w8.setCell ⟨w.heap.size + 1, 1, none⟩ (.slice a3 acc2.length acc2.length)) w9 := m9.mono fun _ _ e => Nat.le_of_eq e.symm
            rw [← hw9]
            clear hw9
            have e0 := cell_at (j := 0) b9 rfl
            have e1 := cell_at (j := 1) b9 rfl
            refine bodyPost_ret (v := .agg #[.string pred, .slice a3 acc2.length acc2.length]) (by simp [results, Tryz.results120, go_sem, e0, e1]) rfl ?_
            have hfr := HT8.out.fr
            have hTs : TsF w9 w.heap.size (.slice a3 acc2.length acc2.length) acc2 (blk a3).toList :=
              ⟨a3, rfl, ((Clp.of HT8.out.own).mod mS (fun b hb e => by have := hfr b hb; omega)).mod m9 (fun b hb e => by have := hfr b hb; omega), rfl, fun b hb => by have := hfr b (by simpa using hb); omega⟩
            exact .inr ⟨_, HX.out, ⟨_, _, rfl, hTs, H.out.far HT8.out.st (mSF.trans mF)⟩, Mod.far HT8.out.md (mSF.trans mF)⟩
theorem atom_any (E : Env) (head : Bool) (F : FuncId) (HF : OneOk E head F) (k : Nat) (agg : Bool) (w : World) (h : PSt w E k agg) :
    Calls Tryz.prog 63 #[.pointer (some ⟨E.bp, 0, none⟩), .func (.func F) #[] #[]] w (PP E w (atomP head E.S k agg) (ResAm E w.heap.size)) := by
  have h0 := h.alloc (.cells #[.string ⟨#[]⟩, .slice none 0 0] 43)
  have m0 : Mod E.Ch w (w.alloc (.cells #[.string ⟨#[]⟩, .slice none 0 0] 43)) := (Mod.refl _ w).alloc _
  have HW := Lib.hid (word1 E k agg 1 _ h0 (by omega) (w.heap.size + 1) 1)
  have HD : Hid (atomP head E.S k agg = (wordP E.S k [1]).bind fun r => (termsP head E.S r.2 agg).bind (amOf r.1)) := rfl
  have HB := Lib.hid (heap_alloc_new w (.cells #[.string ⟨#[]⟩, .slice none 0 0] 43))
  have H := Lib.hid h; have M0 := Lib.hid m0
  clear h h0 m0
  go_enter Tryz.func63, Tryz.ntmps63
  go_wp2_with fail
  refine HW.out.mono ?_
  rintro e w2 (⟨x, hx, rfl, hM⟩ | ⟨⟨s, k2⟩, hx, ⟨rfl, hS⟩, hM⟩)
  · have HX := Lib.hid (show atomP head E.S k agg = .error x by rw [HD.out, hx]; rfl)
    have HM := Lib.hid (M0.out.trans hM); clear hx hM
    go_wp2_with fail
    exact ⟨rfl, .inl ⟨x, HX.out, rfl, HM.out⟩⟩
  have HX := Lib.hid (show atomP head E.S k agg = (termsP head E.S k2 agg).bind (amOf s) by rw [HD.out, hx]; rfl)
  have HT := Lib.hid (terms_any E head F HF k2 agg s w2 hS)
  have HM := Lib.hid (M0.out.trans hM)
  have hz : w.heap.size < w2.heap.size := by have := hM.size; simp at this; omega
  have HB2 := Lib.hid (hM.at HB.out (H.out.nch (Nat.le_refl _)))
  clear hx hM hS HW HB
  go_wp2_with fail
  refine HT.out.mono ?_
  rintro e w3 (⟨x, hx, rfl, hM⟩ | ⟨⟨⟨p', ts⟩, k3, ag3⟩, hx, ⟨v, bs, rfl, hTs, hS⟩, hM⟩)
  · have HX2 := Lib.hid (show atomP head E.S k agg = .error x by rw [HX.out, hx])
    have HM2 := Lib.hid (HM.out.trans hM); clear hx hM
    go_wp2_with fail
    exact ⟨rfl, .inl ⟨x, HX2.out, rfl, HM2.out⟩⟩
  have HX2 := Lib.hid (HX.out.trans hx)
  have HM2 := Lib.hid (HM.out.trans hM)
  simp only at hTs hS ⊢
  have hb3 := hM.at HB2.out (H.out.nch (Nat.le_refl _))
  have c0 := cell_at (j := 0) hb3 rfl
  have c1 := cell_at (j := 1) hb3 rfl
  have f0 : w3.frozen? ⟨w.heap.size, 0, none⟩ = false := frozen_at hb3
  have f1 : w3.frozen? ⟨w.heap.size, 1, none⟩ = false := frozen_at hb3
  have HTS := Lib.hid hTs; have HS := Lib.hid hS; have HB3 := Lib.hid hb3
  obtain ⟨a, hv, _⟩ := hTs
  subst hv
  clear hx hM hb3 hS HT HB2
  go_wp2_with fail
  obtain ⟨w9, hw9⟩ : ∃ w9, w9 = ((w3.setCell ⟨w.heap.size, 0, none⟩ (.string p')).setCell ⟨w.heap.size, 1, none⟩ (.slice a ts.length ts.length)) := ⟨_, rfl⟩
  have b9 : w9.heap[w.heap.size]? = some (.cells #[.string p', .slice a ts.length ts.length] 43 (0, 0)) := by rw [hw9]; exact heap_setCell_at (j := 1) _ (heap_setCell_at (j := 0) (.string p') HB3.out)
  have m9 : Mod (fun b => b = w.heap.size) w3 w9 := by rw [hw9]; exact ((Mod.refl (fun b => b = w.heap.size) _).setCell (p := ⟨w.heap.size, 0, none⟩) (fun _ => rfl) _).setCell (p := ⟨w.heap.size, 1, none⟩) (fun _ => rfl) _
  have mF : Mod (Far w) w3 w9 := m9.mono fun _ _ e => Nat.le_of_eq e.symm
  rw [← hw9]
  clear hw9
  have e0 := cell_at (j := 0) b9 rfl
  have e1 := cell_at (j := 1) b9 rfl
  refine bodyPost_ret (v := .agg #[.string p', .slice a ts.length ts.length]) (by simp [results, Tryz.results63, go_sem, e0, e1]) rfl ?_
  have hT9 := (HTS.out.mono (lo' := w.heap.size) (by omega)).mod m9 (fun b hb e => by
    obtain ⟨_, _, _, hbs, hlo⟩ := HTS.out
    have := hlo b hb; omega)
  exact .inr ⟨_, HX2.out, ⟨_, _, rfl, hT9, H.out.far HS.out mF⟩, Mod.far HM2.out mF⟩
end Go.Proofs.YteecbbnpgmceiaaGreatDoor
/-
  The parser: literals.
-/
namespace Go.Proofs.YteecbbnpgmceiaaGreatDoor
open Go Go.RowKit Go.Mine
set_option linter.unusedVariables false
set_option maxHeartbeats 1000000
set_option maxRecDepth 100000

theorem lit_put (W : World) (g : Nat) (u0 u1 u2 u3 u4 u5 u6 u7 : Value) {v0 v1 v2 v3 v4 v5 v6 v7 : Value} {t : TypeId} (h : W.heap[g]? = some (.cells #[v0, v1, v2, v3, v4, v5, v6, v7] t (0, 0))) {W' : World}
    (e : W' = (((((((W.setCell ⟨g, 0, none⟩ u0).setCell ⟨g, 1, none⟩ u1).setCell ⟨g, 2, none⟩ u2).setCell ⟨g, 3, none⟩ u3).setCell ⟨g, 4, none⟩ u4).setCell ⟨g, 5, none⟩ u5).setCell ⟨g, 6, none⟩ u6).setCell ⟨g, 7, none⟩ u7) :
    W'.heap[g]? = some (.cells #[u0, u1, u2, u3, u4, u5, u6, u7] t (0, 0)) ∧ Mod (fun b => b = g) W W' := by
  have h0 : (W.setCell ⟨g, 0, none⟩ u0).heap[g]? = some (.cells #[u0, v1, v2, v3, v4, v5, v6, v7] t (0, 0)) := heap_setCell_at (j := 0) u0 h
  have m0 : Mod (fun b => b = g) W (W.setCell ⟨g, 0, none⟩ u0) := (Mod.refl (fun b => b = g) W).setCell (p := ⟨g, 0, none⟩) (fun _ => rfl) _
  generalize W.setCell ⟨g, 0, none⟩ u0 = W0 at *
  have h1 : (W0.setCell ⟨g, 1, none⟩ u1).heap[g]? = some (.cells #[u0, u1, v2, v3, v4, v5, v6, v7] t (0, 0)) := heap_setCell_at (j := 1) u1 h0
  have m1 : Mod (fun b => b = g) W (W0.setCell ⟨g, 1, none⟩ u1) := m0.setCell (p := ⟨g, 1, none⟩) (fun _ => rfl) _
  generalize W0.setCell ⟨g, 1, none⟩ u1 = W1 at *
  have h2 : (W1.setCell ⟨g, 2, none⟩ u2).heap[g]? = some (.cells #[u0, u1, u2, v3, v4, v5, v6, v7] t (0, 0)) := heap_setCell_at (j := 2) u2 h1
  have m2 : Mod (fun b => b = g) W (W1.setCell ⟨g, 2, none⟩ u2) := m1.setCell (p := ⟨g, 2, none⟩) (fun _ => rfl) _
  generalize W1.setCell ⟨g, 2, none⟩ u2 = W2 at *
  have h3 : (W2.setCell ⟨g, 3, none⟩ u3).heap[g]? = some (.cells #[u0, u1, u2, u3, v4, v5, v6, v7] t (0, 0)) := heap_setCell_at (j := 3) u3 h2
  have m3 : Mod (fun b => b = g) W (W2.setCell ⟨g, 3, none⟩ u3) := m2.setCell (p := ⟨g, 3, none⟩) (fun _ => rfl) _
  generalize W2.setCell ⟨g, 3, none⟩ u3 = W3 at *
  have h4 : (W3.setCell ⟨g, 4, none⟩ u4).heap[g]? = some (.cells #[u0, u1, u2, u3, u4, v5, v6, v7] t (0, 0)) := heap_setCell_at (j := 4) u4 h3
  have m4 : Mod (fun b => b = g) W (W3.setCell ⟨g, 4, none⟩ u4) := m3.setCell (p := ⟨g, 4, none⟩) (fun _ => rfl) _
  generalize W3.setCell ⟨g, 4, none⟩ u4 = W4 at *
  have h5 : (W4.setCell ⟨g, 5, none⟩ u5).heap[g]? = some (.cells #[u0, u1, u2, u3, u4, u5, v6, v7] t (0, 0)) := heap_setCell_at (j := 5) u5 h4
  have m5 : Mod (fun b => b = g) W (W4.setCell ⟨g, 5, none⟩ u5) := m4.setCell (p := ⟨g, 5, none⟩) (fun _ => rfl) _
  generalize W4.setCell ⟨g, 5, none⟩ u5 = W5 at *
  have h6 : (W5.setCell ⟨g, 6, none⟩ u6).heap[g]? = some (.cells #[u0, u1, u2, u3, u4, u5, u6, v7] t (0, 0)) := heap_setCell_at (j := 6) u6 h5
  have m6 : Mod (fun b => b = g) W (W5.setCell ⟨g, 6, none⟩ u6) := m5.setCell (p := ⟨g, 6, none⟩) (fun _ => rfl) _
  generalize W5.setCell ⟨g, 6, none⟩ u6 = W6 at *
  subst e
  exact ⟨heap_setCell_at (j := 7) u7 h6, m6.setCell (p := ⟨g, 7, none⟩) (fun _ => rfl) _⟩
theorem one_agg {S : Toks} {k : Nat} {ag : Bool} {r : Tm × Nat × Bool} (h : oneP false S k ag = .ok r) : r.2.2 = ag := by
  unfold oneP at h
  rw [if_neg (by simp)] at h
  cases ht : termP S k with
  | error x => rw [ht] at h; cases h
  | ok q => rw [ht] at h; cases h; rfl
theorem termsGo_agg {S : Toks} : ∀ (f k : Nat) (ag : Bool) (acc : List Tm) {r : List Tm × Nat × Bool}, termsGo false S f k ag acc = .ok r → r.2.2 = ag
  | 0, _, _, _, _, h => by cases h
  | f + 1, k, ag, acc, r, h => by
    rw [termsGo] at h
    cases hw : wantP S (k + 1) [1, 2, 3] with
    | error x => rw [hw] at h; cases h
    | ok u =>
      rw [hw, bind_ok'] at h
      split at h
      · cases h
      · cases ho : oneP false S (k + 1) ag with
        | error x => rw [ho] at h; cases h
        | ok q =>
          have hq := one_agg ho
          rw [ho, bind_ok'] at h
          cases hi : isP S q.2.1 [6] with
          | error x => rw [hi] at h; cases h
          | ok b =>
            rw [hi, bind_ok'] at h
            split at h
            · rw [hq] at h; exact termsGo_agg f _ _ _ h
            · cases h; exact hq
theorem terms_agg {S : Toks} {k : Nat} {ag : Bool} {r : List Tm × Nat × Bool} (h : termsP false S k ag = .ok r) : r.2.2 = ag := by
  unfold termsP at h
  cases hi : isP S k [4] with
  | error x => rw [hi] at h; cases h
  | ok b =>
    rw [hi, bind_ok'] at h
    split at h
    · cases h; rfl
    · cases hg : termsGo false S 65 k ag [] with
      | error x => rw [hg] at h; cases h
      | ok q =>
        have hq := termsGo_agg _ _ _ _ hg
        rw [hg, bind_ok'] at h
        cases hm : markP S q.2.1 5 with
        | error x => rw [hm] at h; cases h
        | ok k3 => rw [hm] at h; cases h; exact hq
theorem atom_agg {S : Toks} {k : Nat} {ag : Bool} {r : Am × Nat × Bool} (h : atomP false S k ag = .ok r) : r.2.2 = ag := by
  unfold atomP at h
  cases hw : wordP S k [1] with
  | error x => rw [hw] at h; cases h
  | ok q =>
    rw [hw, bind_ok'] at h
    cases ht : termsP false S q.2 ag with
    | error x => rw [ht] at h; cases h
    | ok z => have hz := terms_agg ht; rw [ht] at h; cases h; exact hz
def litZ : Array Value := #[.int .i64 0, .string ⟨#[]⟩, .slice none 0 0, .int .i64 0, .int .i64 0, .string ⟨#[]⟩, .int .i64 0, .string ⟨#[]⟩]
def ResLm (E : Env) (lo : Nat) (agg : Bool) (r : Lm × Nat) (e : Ending) (w' : World) : Prop := ∃ v bs, e = .returned (lmV r.1 v) ∧ TsF w' lo v r.1.atom.terms bs ∧ PSt w' E r.2 agg
theorem is4 (E : Env) (k : Nat) (agg : Bool) (w : World) (h : PSt w E k agg) (g : Nat) (hg : g = w.heap.size := by first | rfl | simp) :
    Calls Tryz.prog 106 #[.pointer (some ⟨E.bp, 0, none⟩), .slice (some ⟨g, 0, none⟩) 4 4] (w.alloc (.cells #[.int .i64 10, .int .i64 11, .int .i64 12, .int .i64 13] 3)) fun e w' => ((∃ x, isP E.S k opsK = .error x ∧ e = .panicked (wrongE x)) ∨ (∃ b, isP E.S k opsK = .ok b ∧ e = .returned (.bool b))) ∧ w.alloc (.cells #[.int .i64 10, .int .i64 11, .int .i64 12, .int .i64 13] 3) = w' := by
  subst hg
  exact is_any E k agg (some ⟨w.heap.size, 0, none⟩) 4 [10, 11, 12, 13] _ (h.alloc _) (Rd.news w [.int .i64 10, .int .i64 11, .int .i64 12, .int .i64 13] _) (by simp)
theorem want4 (E : Env) (k : Nat) (agg : Bool) (w : World) (h : PSt w E k agg) (g : Nat) (hg : g = w.heap.size := by first | rfl | simp) :
    Calls Tryz.prog 105 #[.pointer (some ⟨E.bp, 0, none⟩), .slice (some ⟨g, 0, none⟩) 4 4] (w.alloc (.cells #[.int .i64 10, .int .i64 11, .int .i64 12, .int .i64 13] 3)) fun e w' => ((∃ x, wantP E.S k opsK = .error x ∧ e = .panicked (wrongE x)) ∨ (wantP E.S k opsK = .ok () ∧ e = .returned (.tuple #[]))) ∧ w.alloc (.cells #[.int .i64 10, .int .i64 11, .int .i64 12, .int .i64 13] 3) = w' := by
  subst hg
  exact want_any E k agg (some ⟨w.heap.size, 0, none⟩) 4 [10, 11, 12, 13] _ (h.alloc _) (Rd.news w [.int .i64 10, .int .i64 11, .int .i64 12, .int .i64 13] _) (by simp)
/-- where a literal is being read: the parser, the box of the answer -/
structure LiI (E : Env) (w0 W : World) (k : Nat) (ag : Bool) : Prop where
  base : ∃ k0 ag0, PSt w0 E k0 ag0
  st : PSt W E k ag
  md : Mod E.Ch w0 W
  b0 : W.heap[w0.heap.size]? = some (.cells #[.int .i64 0, .string ⟨#[]⟩, .slice none 0 0, .int .i64 0, .int .i64 0, .string ⟨#[]⟩, .int .i64 0, .string ⟨#[]⟩] 102 (0, 0))
section
variable {E : Env} {w0 W W' : World} {k k' : Nat} {ag ag' : Bool}
theorem LiI.call (h : LiI E w0 W k ag) (hs : PSt W' E k' ag') (m : Mod E.Ch W W') : LiI E w0 W' k' ag' := by
  obtain ⟨k0, ag0, h0⟩ := h.base
  exact ⟨h.base, hs, h.md.trans m, m.at h.b0 (h0.nch (Nat.le_refl _))⟩
theorem LiI.alloc (h : LiI E w0 W k ag) (o : Obj) : LiI E w0 (W.alloc o) k ag := h.call (h.st.alloc o) ((Mod.refl _ W).alloc o)
theorem LiI.lt (h : LiI E w0 W k ag) : w0.heap.size < W.heap.size := (Array.getElem?_eq_some_iff.1 h.b0).1
end
theorem want_ops {S : Toks} {k : Nat} (h : wantP S k opsK = .ok ()) : 10 ≤ (S.tok k).kind ∧ (S.tok k).kind ≤ 13 := by
  cases hb : S.bad k with
  | true => rw [wantP_bad hb] at h; cases h
  | false =>
    cases hc : opsK.contains (S.tok k).kind with
    | true => unfold opsK at hc; simp at hc; omega
    | false => rw [wantP_no hb hc] at h; cases h
theorem literal_any (E : Env) (k : Nat) (agg : Bool) (w : World) (h : PSt w E k agg) :
    Calls Tryz.prog 114 #[.pointer (some ⟨E.bp, 0, none⟩)] w (PP E w (litP E.S k agg) (ResLm E w.heap.size agg)) := by
  have h0 := h.alloc (.cells #[.int .i64 0, .string ⟨#[]⟩, .slice none 0 0, .int .i64 0, .int .i64 0, .string ⟨#[]⟩, .int .i64 0, .string ⟨#[]⟩] 102)
  have hI0 : LiI E w _ k agg := ⟨⟨_, _, h⟩, h0, (Mod.refl _ w).alloc _, heap_alloc_new w _⟩
  have HI9 := Lib.hid (is1 E k agg 9 _ h0 (w.heap.size + 1) 9)
  have HT := Lib.hid (hI0.alloc (.cells #[.int .i64 9] 3))
  have HD : Hid (litP E.S k agg = (isP E.S k [9]).bind fun n => if n = true then (atomP false E.S (k + 1) agg).bind fun r => .ok (⟨2, r.1, 0, tm0, tm0⟩, r.2.1) else
    (isP E.S k [1]).bind fun small => (termP E.S k).bind fun r =>
      if small = true then (isP E.S r.2 opsK).bind fun o => if o = true then cmpP E.S r.2 r.1 else
        (termsP false E.S r.2 agg).bind fun q => .ok (⟨1, ⟨r.1.text, q.1⟩, 0, tm0, tm0⟩, q.2.1)
      else cmpP E.S r.2 r.1) := rfl
  have H := Lib.hid h
  clear h h0 hI0
  go_enter Tryz.func114, Tryz.ntmps114
  go_wp2_with fail
  refine HI9.out.mono ?_
  rintro e w' ⟨(⟨x, hx, rfl⟩ | ⟨b, hx, rfl⟩), rfl⟩
  · have HX := Lib.hid hx; clear hx
    go_wp2_with fail
    exact ⟨rfl, .inl ⟨x, by rw [HD.out, HX.out]; rfl, rfl, HT.out.md⟩⟩
  obtain ⟨v1, hv1⟩ : ∃ v1, v1 = ((w.alloc (.cells #[.int .i64 0, .string ⟨#[]⟩, .slice none 0 0, .int .i64 0, .int .i64 0, .string ⟨#[]⟩, .int .i64 0, .string ⟨#[]⟩] 102)).alloc (.cells #[.int .i64 9] 3)) := ⟨_, rfl⟩
  have hz1 : w.heap.size + 2 = v1.heap.size := by rw [hv1]; simp
  rw [← hv1] at HT ⊢
  have HZ1 := Lib.hid hz1
  clear hv1 HI9 hz1
  cases b with
  | true =>
    have hlt := is_in hx (by omega)
    have HS := Lib.hid (step_any E k agg _ HT.out.st hlt)
    have HX := Lib.hid (show litP E.S k agg = (atomP false E.S (k + 1) agg).bind fun r => .ok (⟨2, r.1, 0, tm0, tm0⟩, r.2.1) by rw [HD.out, hx]; rfl)
    clear hx HD
    go_wp2_with fail
    refine HS.out.mono ?_
    rintro e w2 ⟨rfl, hS, hM⟩
    have HT2 := Lib.hid (HT.out.call hS hM)
    have HA := Lib.hid (atom_any E false _ (one_term E) (k + 1) agg w2 hS)
    clear hS hM HS HT
    go_wp2_with fail
    refine HA.out.mono ?_
    rintro e w3 (⟨x, hx, rfl, hM⟩ | ⟨⟨⟨p', ts⟩, k3, ag3⟩, hx, ⟨v, bs, rfl, hTs, hS⟩, hM⟩)
    · have HX2 := Lib.hid (show litP E.S k agg = .error x by rw [HX.out, hx]; rfl)
      have HM := Lib.hid (HT2.out.md.trans hM); clear hx hM
      go_wp2_with fail
      exact ⟨rfl, .inl ⟨x, HX2.out, rfl, HM.out⟩⟩
    obtain rfl : ag3 = agg := atom_agg hx
    have HX2 := Lib.hid (show litP E.S k ag3 = .ok (⟨2, ⟨p', ts⟩, 0, tm0, tm0⟩, k3) by rw [HX.out, hx]; rfl)
    simp only at hTs hS ⊢
    have HT3 := Lib.hid (HT2.out.call hS hM)
    have hle : w.heap.size < w2.heap.size := HT2.out.lt
    have HTS := Lib.hid hTs
    obtain ⟨a, hv, _⟩ := hTs
    subst hv
    have HBX := Lib.hid HT3.out.b0
    clear hx hM hS HA HT2
    have c0 := cell_at (j := 0) HBX.out rfl
    have c1 := cell_at (j := 1) HBX.out rfl
    have c2 := cell_at (j := 2) HBX.out rfl
    have c3 := cell_at (j := 3) HBX.out rfl
    have c4 := cell_at (j := 4) HBX.out rfl
    have c5 := cell_at (j := 5) HBX.out rfl
    have c6 := cell_at (j := 6) HBX.out rfl
    have c7 := cell_at (j := 7) HBX.out rfl
    have f0 : (w3).frozen? ⟨w.heap.size, 0, none⟩ = false := frozen_at HBX.out
    have f1 : (w3).frozen? ⟨w.heap.size, 1, none⟩ = false := frozen_at HBX.out
    have f2 : (w3).frozen? ⟨w.heap.size, 2, none⟩ = false := frozen_at HBX.out
    have f3 : (w3).frozen? ⟨w.heap.size, 3, none⟩ = false := frozen_at HBX.out
    have f4 : (w3).frozen? ⟨w.heap.size, 4, none⟩ = false := frozen_at HBX.out
    have f5 : (w3).frozen? ⟨w.heap.size, 5, none⟩ = false := frozen_at HBX.out
    have f6 : (w3).frozen? ⟨w.heap.size, 6, none⟩ = false := frozen_at HBX.out
    have f7 : (w3).frozen? ⟨w.heap.size, 7, none⟩ = false := frozen_at HBX.out
    go_wp2_with fail
    obtain ⟨w9, hw9⟩ : ∃ w9, w9 = ((((((((w3).setCell ⟨w.heap.size, 0, none⟩ (.int .i64 2)).setCell ⟨w.heap.size, 1, none⟩ (.string p')).setCell ⟨w.heap.size, 2, none⟩ (.slice a ts.length ts.length)).setCell ⟨w.heap.size, 3, none⟩ (.int .i64 0)).setCell ⟨w.heap.size, 4, none⟩ (.int .i64 0)).setCell ⟨w.heap.size, 5, none⟩ (.string ⟨#[]⟩)).setCell ⟨w.heap.size, 6, none⟩ (.int .i64 0)).setCell ⟨w.heap.size, 7, none⟩ (.string ⟨#[]⟩) := ⟨_, rfl⟩
    obtain ⟨b9, m9⟩ := lit_put (w3) w.heap.size (.int .i64 2) (.string p') (.slice a ts.length ts.length) (.int .i64 0) (.int .i64 0) (.string ⟨#[]⟩) (.int .i64 0) (.string ⟨#[]⟩) HBX.out hw9
    rw [← hw9]
    clear hw9
    have e0 := cell_at (j := 0) b9 rfl
    have e1 := cell_at (j := 1) b9 rfl
    have e2 := cell_at (j := 2) b9 rfl
    have e3 := cell_at (j := 3) b9 rfl
    have e4 := cell_at (j := 4) b9 rfl
    have e5 := cell_at (j := 5) b9 rfl
    have e6 := cell_at (j := 6) b9 rfl
    have e7 := cell_at (j := 7) b9 rfl
    have mF : Mod (Far w) (w3) w9 := m9.mono fun _ _ e => Nat.le_of_eq e.symm
    refine bodyPost_ret (v := .agg #[.int .i64 2, .string p', .slice a ts.length ts.length, .int .i64 0, .int .i64 0, .string ⟨#[]⟩, .int .i64 0, .string ⟨#[]⟩]) (by simp [results, Tryz.results114, go_sem, e0, e1, e2, e3, e4, e5, e6, e7]) rfl ?_
    have hT9 := (HTS.out.mono (lo' := w.heap.size) (by omega)).mod m9 (fun b hb e => by
      obtain ⟨_, _, _, hbs, hlo⟩ := HTS.out
      have := hlo b hb; omega)
    exact .inr ⟨_, HX2.out, ⟨_, _, rfl, hT9, H.out.far HT3.out.st mF⟩, Mod.far HT3.out.md mF⟩
  | false =>
    have HX := Lib.hid (show litP E.S k agg = (isP E.S k [1]).bind fun small => (termP E.S k).bind fun r =>
      if small = true then (isP E.S r.2 opsK).bind fun o => if o = true then cmpP E.S r.2 r.1 else
        (termsP false E.S r.2 agg).bind fun q => .ok (⟨1, ⟨r.1.text, q.1⟩, 0, tm0, tm0⟩, q.2.1)
      else cmpP E.S r.2 r.1 by rw [HD.out, hx]; rfl)
    have HI1 := Lib.hid (is1 E k agg 1 _ HT.out.st v1.heap.size 1)
    have HT2 := Lib.hid (HT.out.alloc (.cells #[.int .i64 1] 3))
    clear hx HD
    go_wp2_with fail
    refine HI1.out.mono ?_
    rintro e w' ⟨(⟨x, hx, rfl⟩ | ⟨b, hx, rfl⟩), rfl⟩
    · have HX2 := Lib.hid hx; clear hx
      go_wp2_with fail
      exact ⟨rfl, .inl ⟨x, by rw [HX.out, HX2.out]; rfl, rfl, HT2.out.md⟩⟩
    obtain ⟨w2, hw2⟩ : ∃ w2, w2 = v1.alloc (.cells #[.int .i64 1] 3) := ⟨_, rfl⟩
    rw [← hw2] at HT2 ⊢
    have HXB := Lib.hid (HX.out.trans (by rw [hx, bind_ok']))
    clear hw2 HI1 HT hx HX
    have HTM := Lib.hid (term_is E k agg w2 HT2.out.st)
    go_wp2_with fail
    refine HTM.out.mono ?_
    rintro e w3 (⟨x, hx, rfl, hM⟩ | ⟨⟨⟨tk, s⟩, k2⟩, hx, ⟨rfl, hS⟩, hM⟩)
    · have HX2 := Lib.hid (show litP E.S k agg = .error x by rw [HXB.out, hx]; rfl)
      have HM := Lib.hid (HT2.out.md.trans hM); clear hx hM
      go_wp2_with fail
      exact ⟨rfl, .inl ⟨x, HX2.out, rfl, HM.out⟩⟩
    simp only [tmV] at hS ⊢
    have HXC := Lib.hid (HXB.out.trans (by rw [hx, bind_ok']))
    have HT3 := Lib.hid (HT2.out.call hS hM)
    have hg3 := HT3.out.lt
    have HT4 := Lib.hid (HT3.out.alloc (.cells #[.int .i64 tk, .string s] 100))
    have HB4 := Lib.hid (heap_alloc_new w3 (.cells #[.int .i64 tk, .string s] 100))
    clear hx hS hM HXB HTM HT2
    cases b with
    | true =>
      have HI4 := Lib.hid (is4 E k2 agg _ HT4.out.st (w3.heap.size + 1))
      have HT5 := Lib.hid (HT4.out.alloc (.cells #[.int .i64 10, .int .i64 11, .int .i64 12, .int .i64 13] 3))
      have HB5 := Lib.hid (((Mod.refl (fun _ => False) (w3.alloc (.cells #[.int .i64 tk, .string s] 100))).alloc (.cells #[.int .i64 10, .int .i64 11, .int .i64 12, .int .i64 13] 3)).at HB4.out id)
      go_wp2_with fail
      refine HI4.out.mono ?_
      rintro e w' ⟨(⟨x, hx, rfl⟩ | ⟨b, hx, rfl⟩), rfl⟩
      · have HX2 := Lib.hid (show litP E.S k agg = .error x by rw [HXC.out, if_pos trivial, hx]; rfl); clear hx
        go_wp2_with fail
        exact ⟨rfl, .inl ⟨x, HX2.out, rfl, HT5.out.md⟩⟩
      obtain ⟨w5, hw5⟩ : ∃ w5, w5 = (w3.alloc (.cells #[.int .i64 tk, .string s] 100)).alloc (.cells #[.int .i64 10, .int .i64 11, .int .i64 12, .int .i64 13] 3) := ⟨_, rfl⟩
      rw [← hw5] at HT5 HB5 ⊢
      have hz5 : w3.heap.size < w5.heap.size := by rw [hw5]; simp; omega
      clear hw5 HI4 HT4 HB4
      cases b with
      | true =>
        have HXT := Lib.hid (show litP E.S k agg = cmpP E.S k2 ⟨tk, s⟩ by rw [HXC.out, if_pos trivial, hx, bind_ok', if_pos rfl])
        clear hx HXC HT3
        have hg4 : Hid (w.heap.size < w3.heap.size) := hg3
        obtain ⟨g4, hg4e⟩ : ∃ g4, g4 = w3.heap.size := ⟨_, rfl⟩
        rw [← hg4e] at HB5 hg4 ⊢
        clear hg4e hg3 hz5
        have HW := Lib.hid (want4 E k2 agg w5 HT5.out.st w5.heap.size)
        have HT6 := Lib.hid (HT5.out.alloc (.cells #[.int .i64 10, .int .i64 11, .int .i64 12, .int .i64 13] 3))
        have HB6 := Lib.hid (((Mod.refl (fun _ => False) w5).alloc (.cells #[.int .i64 10, .int .i64 11, .int .i64 12, .int .i64 13] 3)).at HB5.out id)
        have HCP := Lib.hid (HXT.out.trans (show cmpP E.S k2 ⟨tk, s⟩ = (wantP E.S k2 opsK).bind fun _ => (termP E.S (k2 + 1)).bind fun r => .ok (⟨3, ⟨emptyB, []⟩, (E.S.tok k2).kind - 9, ⟨tk, s⟩, r.1⟩, r.2) from rfl))
        clear HXT
        go_wp2_with fail
        refine HW.out.mono ?_
        rintro e w' ⟨(⟨x, hx, rfl⟩ | ⟨hx, rfl⟩), rfl⟩
        · have HX := Lib.hid (show litP E.S k agg = .error x by rw [HCP.out, hx]; rfl); clear hx
          go_wp2_with fail
          exact ⟨rfl, .inl ⟨x, HX.out, rfl, HT6.out.md⟩⟩
        obtain ⟨w6, hw6⟩ : ∃ w6, w6 = w5.alloc (.cells #[.int .i64 10, .int .i64 11, .int .i64 12, .int .i64 13] 3) := ⟨_, rfl⟩
        rw [← hw6] at HT6 HB6 ⊢
        clear hw6 HW HT5 HB5
        have hlt2 := want_in hx (by decide)
        have hkd := want_ops hx
        have HX2 := Lib.hid (show litP E.S k agg = (termP E.S (k2 + 1)).bind fun r => .ok (⟨3, ⟨emptyB, []⟩, (E.S.tok k2).kind - 9, ⟨tk, s⟩, r.1⟩, r.2) by rw [HCP.out, hx, bind_ok'])
        clear hx HCP
        have a1 := HT6.out.st.kind
        have HS := Lib.hid (step_any E k2 agg w6 HT6.out.st hlt2)
        obtain ⟨kd, hkde⟩ : ∃ kd, kd = (E.S.tok k2).kind := ⟨_, rfl⟩
        rw [← hkde] at hkd a1 HX2
        clear hkde
        obtain ⟨hk1, hk2⟩ := hkd
        go_wp2_with fail
        refine HS.out.mono ?_
        rintro e w7 ⟨rfl, hS, hM⟩
        have HT7 := Lib.hid (HT6.out.call hS hM)
        have hb7 := hM.at HB6.out (H.out.nch (by have := hg4.out; omega))
        have d0 := cell_at (j := 0) hb7 rfl
        have d1 := cell_at (j := 1) hb7 rfl
        have HB7 := Lib.hid hb7
        clear hS hM hb7 HB6 HT6 HS a1
        cases ho : termP E.S (k2 + 1) with
        | error x =>
          have HX := Lib.hid (show litP E.S k agg = .error x by rw [HX2.out, ho]; rfl)
          have HC : Hid (∀ W, Mod (fun _ => False) w7 W → Calls Tryz.prog 64 #[.pointer (some ⟨E.bp, 0, none⟩)] W fun e w' => e = .panicked (wrongE x) ∧ Mod E.Ch w7 w') := fun W hm => (term_is E (k2 + 1) agg W (HT7.out.st.mod0 hm)).mono fun e w' h => by
            rcases h with ⟨y, h1, h2, h3⟩ | ⟨r, h1, _⟩
            · rw [ho] at h1; cases h1; exact ⟨h2, (hm.mono fun _ _ f => f.elim).trans h3⟩
            · rw [ho] at h1; cases h1
          clear ho
          go_wp2_with fail
          refine wp_region_pan (fun w' => w'.cell? ⟨g4, 0, none⟩ = some (.int .i64 tk) ∧ w'.cell? ⟨g4, 1, none⟩ = some (.string s)) 3 [(0, 0), (1, 1), (0, 2)] (by kernel_rfl) (by kernel_rfl) ?_
          go_wp2_with (first
            | (refine ord_pure rfl rfl rfl (fun K hK => ?_); go_big_quiet_op; refine hK _ ?_; clear hK K)
                        | (refine ord_skip rfl rfl ?_; simp only [Act.put, List.setIfInBounds_toArray, List.set_cons_zero, List.set_cons_succ])
                        | (refine ord_held rfl rfl rfl (⟨by simpa using d0, by simpa using d1⟩) (fun K hK => ?_); apply Exists.intro; refine ⟨fun w' hs => ?_, hK _ ?_⟩; (revert hs; dsimp only; (try simp only [and_imp]); intros; go_simp; rfl); clear hK K)
                        | (refine ord_keep rfl rfl (⟨by simpa using d0, by simpa using d1⟩) (fun K hK => ?_))
                        | (refine ord_drop rfl rfl (fun K hK => ?_))
                        | (refine ord_nil ?_))
          refine pan_step rfl rfl rfl ?_
          go_simp
          refine (HC.out _ (Mod.refl _ _).drew).mono ?_
          rintro e w' ⟨rfl, hM⟩
          exact ⟨rfl, fun a' ha => ⟨ha, .inl ⟨x, HX.out, rfl, HT7.out.md.trans hM⟩⟩⟩
        | ok r =>
          obtain ⟨⟨rk, rs⟩, k8⟩ := r
          have HX := Lib.hid (show litP E.S k agg = .ok (⟨3, ⟨emptyB, []⟩, (kd : Int) - 9, ⟨tk, s⟩, ⟨rk, rs⟩⟩, k8) by rw [HX2.out, ho]; rfl)
          have HC : Hid (∀ W, Mod (fun _ => False) w7 W → Calls Tryz.prog 64 #[.pointer (some ⟨E.bp, 0, none⟩)] W fun e w' => e = .returned (.agg #[.int .i64 rk, .string rs]) ∧ PSt w' E k8 agg ∧ Mod E.Ch w7 w') := fun W hm => (term_is E (k2 + 1) agg W (HT7.out.st.mod0 hm)).mono fun e w' h => by
            rcases h with ⟨y, h1, h2, h3⟩ | ⟨r, h1, h2, h3⟩
            · rw [ho] at h1; cases h1
            · rw [ho] at h1; cases h1; exact ⟨h2.1, h2.2, (hm.mono fun _ _ f => f.elim).trans h3⟩
          clear ho HX2
          go_wp2_with fail
          refine wp_region_ord (fun w' => w'.cell? ⟨g4, 0, none⟩ = some (.int .i64 tk) ∧ w'.cell? ⟨g4, 1, none⟩ = some (.string s)) [(0, 0), (1, 1), (0, 2), (2, 3), (0, 4), (3, 5)] (by kernel_rfl) (by kernel_rfl) ?_
          go_wp2_with (first
            | (refine ord_pure rfl rfl rfl (fun K hK => ?_); go_big_quiet_op; refine hK _ ?_; clear hK K)
                        | (refine ord_skip rfl rfl ?_; simp only [Act.put, List.setIfInBounds_toArray, List.set_cons_zero, List.set_cons_succ])
                        | (refine ord_held rfl rfl rfl (⟨by simpa using d0, by simpa using d1⟩) (fun K hK => ?_); apply Exists.intro; refine ⟨fun w' hs => ?_, hK _ ?_⟩; (revert hs; dsimp only; (try simp only [and_imp]); intros; go_simp; rfl); clear hK K)
                        | (refine ord_keep rfl rfl (⟨by simpa using d0, by simpa using d1⟩) (fun K hK => ?_))
                        | (refine ord_drop rfl rfl (fun K hK => ?_))
                        | (refine ord_nil ?_))
          refine (HC.out _ (Mod.refl _ _).drew).mono ?_
          rintro e w8 ⟨rfl, hS8, hM8⟩
          have HT8 := Lib.hid (HT7.out.call hS8 hM8)
          have hb8 := hM8.at HB7.out (H.out.nch (by have := hg4.out; omega))
          refine hK _ _ ⟨cell_at (j := 0) hb8 rfl, cell_at (j := 1) hb8 rfl⟩ ?_
          clear hK K hS8 hM8 HC hb8 d0 d1 HT7 HB7
          have HBX := Lib.hid HT8.out.b0
          have c0 := cell_at (j := 0) HBX.out rfl
          have c1 := cell_at (j := 1) HBX.out rfl
          have c2 := cell_at (j := 2) HBX.out rfl
          have c3 := cell_at (j := 3) HBX.out rfl
          have c4 := cell_at (j := 4) HBX.out rfl
          have c5 := cell_at (j := 5) HBX.out rfl
          have c6 := cell_at (j := 6) HBX.out rfl
          have c7 := cell_at (j := 7) HBX.out rfl
          have f0 : (w8).frozen? ⟨w.heap.size, 0, none⟩ = false := frozen_at HBX.out
          have f1 : (w8).frozen? ⟨w.heap.size, 1, none⟩ = false := frozen_at HBX.out
          have f2 : (w8).frozen? ⟨w.heap.size, 2, none⟩ = false := frozen_at HBX.out
          have f3 : (w8).frozen? ⟨w.heap.size, 3, none⟩ = false := frozen_at HBX.out
          have f4 : (w8).frozen? ⟨w.heap.size, 4, none⟩ = false := frozen_at HBX.out
          have f5 : (w8).frozen? ⟨w.heap.size, 5, none⟩ = false := frozen_at HBX.out
          have f6 : (w8).frozen? ⟨w.heap.size, 6, none⟩ = false := frozen_at HBX.out
          have f7 : (w8).frozen? ⟨w.heap.size, 7, none⟩ = false := frozen_at HBX.out
          go_wp2_with (first
            | (refine ord_pure rfl rfl rfl (fun K hK => ?_); go_big_quiet_op; refine hK _ ?_; clear hK K)
                        | (refine ord_skip rfl rfl ?_; simp only [Act.put, List.setIfInBounds_toArray, List.set_cons_zero, List.set_cons_succ])
                        | (refine ord_held rfl rfl rfl (trivial) (fun K hK => ?_); apply Exists.intro; refine ⟨fun w' hs => ?_, hK _ ?_⟩; (revert hs; dsimp only; (try simp only [and_imp]); intros; go_simp; rfl); clear hK K)
                        | (refine ord_keep rfl rfl (trivial) (fun K hK => ?_))
                        | (refine ord_drop rfl rfl (fun K hK => ?_))
                        | (refine ord_nil ?_))
          go_wp2_with fail
          obtain ⟨w9, hw9⟩ : ∃ w9, w9 = ((((((((w8).setCell ⟨w.heap.size, 0, none⟩ (.int .i64 3)).setCell ⟨w.heap.size, 1, none⟩ (.string ⟨#[]⟩)).setCell ⟨w.heap.size, 2, none⟩ (.slice none 0 0)).setCell ⟨w.heap.size, 3, none⟩ (.int .i64 ((kd : Int) - 10 + 1))).setCell ⟨w.heap.size, 4, none⟩ (.int .i64 tk)).setCell ⟨w.heap.size, 5, none⟩ (.string s)).setCell ⟨w.heap.size, 6, none⟩ (.int .i64 rk)).setCell ⟨w.heap.size, 7, none⟩ (.string rs) := ⟨_, rfl⟩
          obtain ⟨b9, m9⟩ := lit_put (w8) w.heap.size (.int .i64 3) (.string ⟨#[]⟩) (.slice none 0 0) (.int .i64 ((kd : Int) - 10 + 1)) (.int .i64 tk) (.string s) (.int .i64 rk) (.string rs) HBX.out hw9
          rw [← hw9]
          clear hw9
          have e0 := cell_at (j := 0) b9 rfl
          have e1 := cell_at (j := 1) b9 rfl
          have e2 := cell_at (j := 2) b9 rfl
          have e3 := cell_at (j := 3) b9 rfl
          have e4 := cell_at (j := 4) b9 rfl
          have e5 := cell_at (j := 5) b9 rfl
          have e6 := cell_at (j := 6) b9 rfl
          have e7 := cell_at (j := 7) b9 rfl
          have mF : Mod (Far w) (w8) w9 := m9.mono fun _ _ e => Nat.le_of_eq e.symm
          refine bodyPost_ret (v := .agg #[.int .i64 3, .string ⟨#[]⟩, .slice none 0 0, .int .i64 ((kd : Int) - 10 + 1), .int .i64 tk, .string s, .int .i64 rk, .string rs]) (by simp [results, Tryz.results114, go_sem, e0, e1, e2, e3, e4, e5, e6, e7]) rfl ?_
          have hT9 : TsF w9 w.heap.size (.slice none 0 0) [] [] := ⟨none, rfl, Clp.of (Mine.Own.nil _ _ _), rfl, by simp⟩
          have he : (kd : Int) - 10 + 1 = (kd : Int) - 9 := by omega
          exact .inr ⟨_, HX.out, ⟨_, _, by rw [he]; rfl, hT9, H.out.far HT8.out.st mF⟩, Mod.far HT8.out.md mF⟩
      | false =>
        have HX2 := Lib.hid (show litP E.S k agg = (termsP false E.S k2 agg).bind fun q => .ok (⟨1, ⟨s, q.1⟩, 0, tm0, tm0⟩, q.2.1) by rw [HXC.out, if_pos trivial, hx, bind_ok', if_neg (by simp)])
        have HTT := Lib.hid (terms_any E false _ (one_term E) k2 agg s w5 HT5.out.st)
        have d1 := cell_at (j := 1) HB5.out rfl
        clear hx HXC
        go_wp2_with fail
        refine HTT.out.mono ?_
        rintro e w6 (⟨x, hx, rfl, hM⟩ | ⟨⟨⟨p', ts⟩, k3, ag3⟩, hx, ⟨v, bs, rfl, hTs, hS⟩, hM⟩)
        · have HX3 := Lib.hid (show litP E.S k agg = .error x by
            rw [HX2.out]
            cases ht : termsP false E.S k2 agg with
            | error y => rw [ht] at hx; cases hx; rfl
            | ok q => rw [ht] at hx; cases hx)
          have HM := Lib.hid (HT5.out.md.trans hM); clear hx hM
          go_wp2_with fail
          exact ⟨rfl, .inl ⟨x, HX3.out, rfl, HM.out⟩⟩
        obtain ⟨hpe, hag, hlx⟩ : p' = s ∧ ag3 = agg ∧ litP E.S k agg = .ok (⟨1, ⟨s, ts⟩, 0, tm0, tm0⟩, k3) := by
          cases ht : termsP false E.S k2 agg with
          | error y => rw [ht] at hx; cases hx
          | ok q =>
            have := terms_agg ht
            rw [ht] at hx
            cases hx
            exact ⟨rfl, this, by rw [HX2.out, ht]; rfl⟩
        subst hpe hag
        have HX3 := Lib.hid hlx
        simp only at hTs hS ⊢
        have HT6 := Lib.hid (HT5.out.call hS hM)
        have HTS := Lib.hid hTs
        obtain ⟨a, hv, _⟩ := hTs
        subst hv
        have HBX := Lib.hid HT6.out.b0
        clear hx hM hS HTT HT5 hlx d1 HB5
        have c0 := cell_at (j := 0) HBX.out rfl
        have c1 := cell_at (j := 1) HBX.out rfl
        have c2 := cell_at (j := 2) HBX.out rfl
        have c3 := cell_at (j := 3) HBX.out rfl
        have c4 := cell_at (j := 4) HBX.out rfl
        have c5 := cell_at (j := 5) HBX.out rfl
        have c6 := cell_at (j := 6) HBX.out rfl
        have c7 := cell_at (j := 7) HBX.out rfl
        have f0 : (w6).frozen? ⟨w.heap.size, 0, none⟩ = false := frozen_at HBX.out
        have f1 : (w6).frozen? ⟨w.heap.size, 1, none⟩ = false := frozen_at HBX.out
        have f2 : (w6).frozen? ⟨w.heap.size, 2, none⟩ = false := frozen_at HBX.out
        have f3 : (w6).frozen? ⟨w.heap.size, 3, none⟩ = false := frozen_at HBX.out
        have f4 : (w6).frozen? ⟨w.heap.size, 4, none⟩ = false := frozen_at HBX.out
        have f5 : (w6).frozen? ⟨w.heap.size, 5, none⟩ = false := frozen_at HBX.out
        have f6 : (w6).frozen? ⟨w.heap.size, 6, none⟩ = false := frozen_at HBX.out
        have f7 : (w6).frozen? ⟨w.heap.size, 7, none⟩ = false := frozen_at HBX.out
        go_wp2_with fail
        obtain ⟨w9, hw9⟩ : ∃ w9, w9 = ((((((((w6).setCell ⟨w.heap.size, 0, none⟩ (.int .i64 1)).setCell ⟨w.heap.size, 1, none⟩ (.string p')).setCell ⟨w.heap.size, 2, none⟩ (.slice a ts.length ts.length)).setCell ⟨w.heap.size, 3, none⟩ (.int .i64 0)).setCell ⟨w.heap.size, 4, none⟩ (.int .i64 0)).setCell ⟨w.heap.size, 5, none⟩ (.string ⟨#[]⟩)).setCell ⟨w.heap.size, 6, none⟩ (.int .i64 0)).setCell ⟨w.heap.size, 7, none⟩ (.string ⟨#[]⟩) := ⟨_, rfl⟩
        obtain ⟨b9, m9⟩ := lit_put (w6) w.heap.size (.int .i64 1) (.string p') (.slice a ts.length ts.length) (.int .i64 0) (.int .i64 0) (.string ⟨#[]⟩) (.int .i64 0) (.string ⟨#[]⟩) HBX.out hw9
        rw [← hw9]
        clear hw9
        have e0 := cell_at (j := 0) b9 rfl
        have e1 := cell_at (j := 1) b9 rfl
        have e2 := cell_at (j := 2) b9 rfl
        have e3 := cell_at (j := 3) b9 rfl
        have e4 := cell_at (j := 4) b9 rfl
        have e5 := cell_at (j := 5) b9 rfl
        have e6 := cell_at (j := 6) b9 rfl
        have e7 := cell_at (j := 7) b9 rfl
        have mF : Mod (Far w) (w6) w9 := m9.mono fun _ _ e => Nat.le_of_eq e.symm
        refine bodyPost_ret (v := .agg #[.int .i64 1, .string p', .slice a ts.length ts.length, .int .i64 0, .int .i64 0, .string ⟨#[]⟩, .int .i64 0, .string ⟨#[]⟩]) (by simp [results, Tryz.results114, go_sem, e0, e1, e2, e3, e4, e5, e6, e7]) rfl ?_
        have hT9 := (HTS.out.mono (lo' := w.heap.size) (by omega)).mod m9 (fun b hb e => by
          obtain ⟨_, _, _, hbs, hlo⟩ := HTS.out
          have := hlo b hb; omega)
        exact .inr ⟨_, HX3.out, ⟨_, _, rfl, hT9, H.out.far HT6.out.st mF⟩, Mod.far HT6.out.md mF⟩
    | false =>
      have HXT := Lib.hid (show litP E.S k agg = cmpP E.S k2 ⟨tk, s⟩ by rw [HXC.out, if_neg (by simp)])
      clear HXC
      obtain ⟨w5, hw5⟩ : ∃ w5, w5 = w3.alloc (.cells #[.int .i64 tk, .string s] 100) := ⟨_, rfl⟩
      have HT5 := HT4; have HB5 := HB4
      rw [← hw5] at HT5 HB5
      have HW5 := Lib.hid hw5
      clear hw5 HT3 HT4 HB4
      have hg4 : Hid (w.heap.size < w3.heap.size) := hg3
      have hwz : w3.heap.size + 1 = w5.heap.size := by rw [HW5.out]; simp
      have HWZ := Lib.hid hwz; clear hwz
      obtain ⟨g4, hg4e⟩ : ∃ g4, g4 = w3.heap.size := ⟨_, rfl⟩
      rw [← hg4e] at HB5 hg4
      have HGE := Lib.hid hg4e
      clear hg4e
      have HW := Lib.hid (want4 E k2 agg w5 HT5.out.st w5.heap.size)
      have HT6 := Lib.hid (HT5.out.alloc (.cells #[.int .i64 10, .int .i64 11, .int .i64 12, .int .i64 13] 3))
      have HB6 := Lib.hid (((Mod.refl (fun _ => False) w5).alloc (.cells #[.int .i64 10, .int .i64 11, .int .i64 12, .int .i64 13] 3)).at HB5.out id)
      have HCP := Lib.hid (HXT.out.trans (show cmpP E.S k2 ⟨tk, s⟩ = (wantP E.S k2 opsK).bind fun _ => (termP E.S (k2 + 1)).bind fun r => .ok (⟨3, ⟨emptyB, []⟩, (E.S.tok k2).kind - 9, ⟨tk, s⟩, r.1⟩, r.2) from rfl))
      clear HXT
      go_wp2_with fail
      rw [← HW5.out, HWZ.out, ← HGE.out]
      clear HW5 HWZ HGE hg3
      refine HW.out.mono ?_
      rintro e w' ⟨(⟨x, hx, rfl⟩ | ⟨hx, rfl⟩), rfl⟩
      · have HX := Lib.hid (show litP E.S k agg = .error x by rw [HCP.out, hx]; rfl); clear hx
        go_wp2_with fail
        exact ⟨rfl, .inl ⟨x, HX.out, rfl, HT6.out.md⟩⟩
      obtain ⟨w6, hw6⟩ : ∃ w6, w6 = w5.alloc (.cells #[.int .i64 10, .int .i64 11, .int .i64 12, .int .i64 13] 3) := ⟨_, rfl⟩
      rw [← hw6] at HT6 HB6 ⊢
      clear hw6 HW HT5 HB5
      have hlt2 := want_in hx (by decide)
      have hkd := want_ops hx
      have HX2 := Lib.hid (show litP E.S k agg = (termP E.S (k2 + 1)).bind fun r => .ok (⟨3, ⟨emptyB, []⟩, (E.S.tok k2).kind - 9, ⟨tk, s⟩, r.1⟩, r.2) by rw [HCP.out, hx, bind_ok'])
      clear hx HCP
      have a1 := HT6.out.st.kind
      have HS := Lib.hid (step_any E k2 agg w6 HT6.out.st hlt2)
      obtain ⟨kd, hkde⟩ : ∃ kd, kd = (E.S.tok k2).kind := ⟨_, rfl⟩
      rw [← hkde] at hkd a1 HX2
      clear hkde
      obtain ⟨hk1, hk2⟩ := hkd
      go_wp2_with fail
      refine HS.out.mono ?_
      rintro e w7 ⟨rfl, hS, hM⟩
      have HT7 := Lib.hid (HT6.out.call hS hM)
      have hb7 := hM.at HB6.out (H.out.nch (by have := hg4.out; omega))
      have d0 := cell_at (j := 0) hb7 rfl
      have d1 := cell_at (j := 1) hb7 rfl
      have HB7 := Lib.hid hb7
      clear hS hM hb7 HB6 HT6 HS a1
      cases ho : termP E.S (k2 + 1) with
      | error x =>
        have HX := Lib.hid (show litP E.S k agg = .error x by rw [HX2.out, ho]; rfl)
        have HC : Hid (∀ W, Mod (fun _ => False) w7 W → Calls Tryz.prog 64 #[.pointer (some ⟨E.bp, 0, none⟩)] W fun e w' => e = .panicked (wrongE x) ∧ Mod E.Ch w7 w') := fun W hm => (term_is E (k2 + 1) agg W (HT7.out.st.mod0 hm)).mono fun e w' h => by
          rcases h with ⟨y, h1, h2, h3⟩ | ⟨r, h1, _⟩
          · rw [ho] at h1; cases h1; exact ⟨h2, (hm.mono fun _ _ f => f.elim).trans h3⟩
          · rw [ho] at h1; cases h1
        clear ho
        go_wp2_with fail
        refine wp_region_pan (fun w' => w'.cell? ⟨g4, 0, none⟩ = some (.int .i64 tk) ∧ w'.cell? ⟨g4, 1, none⟩ = some (.string s)) 3 [(0, 0), (1, 1), (0, 2)] (by kernel_rfl) (by kernel_rfl) ?_
        go_wp2_with (first
          | (refine ord_pure rfl rfl rfl (fun K hK => ?_); go_big_quiet_op; refine hK _ ?_; clear hK K)
                        | (refine ord_skip rfl rfl ?_; simp only [Act.put, List.setIfInBounds_toArray, List.set_cons_zero, List.set_cons_succ])
                        | (refine ord_held rfl rfl rfl (⟨by simpa using d0, by simpa using d1⟩) (fun K hK => ?_); apply Exists.intro; refine ⟨fun w' hs => ?_, hK _ ?_⟩; (revert hs; dsimp only; (try simp only [and_imp]); intros; go_simp; rfl); clear hK K)
                        | (refine ord_keep rfl rfl (⟨by simpa using d0, by simpa using d1⟩) (fun K hK => ?_))
                        | (refine ord_drop rfl rfl (fun K hK => ?_))
                        | (refine ord_nil ?_))
        refine pan_step rfl rfl rfl ?_
        go_simp
        refine (HC.out _ (Mod.refl _ _).drew).mono ?_
        rintro e w' ⟨rfl, hM⟩
        exact ⟨rfl, fun a' ha => ⟨ha, .inl ⟨x, HX.out, rfl, HT7.out.md.trans hM⟩⟩⟩
      | ok r =>
        obtain ⟨⟨rk, rs⟩, k8⟩ := r
        have HX := Lib.hid (show litP E.S k agg = .ok (⟨3, ⟨emptyB, []⟩, (kd : Int) - 9, ⟨tk, s⟩, ⟨rk, rs⟩⟩, k8) by rw [HX2.out, ho]; rfl)
        have HC : Hid (∀ W, Mod (fun _ => False) w7 W → Calls Tryz.prog 64 #[.pointer (some ⟨E.bp, 0, none⟩)] W fun e w' => e = .returned (.agg #[.int .i64 rk, .string rs]) ∧ PSt w' E k8 agg ∧ Mod E.Ch w7 w') := fun W hm => (term_is E (k2 + 1) agg W (HT7.out.st.mod0 hm)).mono fun e w' h => by
          rcases h with ⟨y, h1, h2, h3⟩ | ⟨r, h1, h2, h3⟩
          · rw [ho] at h1; cases h1
          · rw [ho] at h1; cases h1; exact ⟨h2.1, h2.2, (hm.mono fun _ _ f => f.elim).trans h3⟩
        clear ho HX2
        go_wp2_with fail
        refine wp_region_ord (fun w' => w'.cell? ⟨g4, 0, none⟩ = some (.int .i64 tk) ∧ w'.cell? ⟨g4, 1, none⟩ = some (.string s)) [(0, 0), (1, 1), (0, 2), (2, 3), (0, 4), (3, 5)] (by kernel_rfl) (by kernel_rfl) ?_
        go_wp2_with (first
          | (refine ord_pure rfl rfl rfl (fun K hK => ?_); go_big_quiet_op; refine hK _ ?_; clear hK K)
                        | (refine ord_skip rfl rfl ?_; simp only [Act.put, List.setIfInBounds_toArray, List.set_cons_zero, List.set_cons_succ])
                        | (refine ord_held rfl rfl rfl (⟨by simpa using d0, by simpa using d1⟩) (fun K hK => ?_); apply Exists.intro; refine ⟨fun w' hs => ?_, hK _ ?_⟩; (revert hs; dsimp only; (try simp only [and_imp]); intros; go_simp; rfl); clear hK K)
                        | (refine ord_keep rfl rfl (⟨by simpa using d0, by simpa using d1⟩) (fun K hK => ?_))
                        | (refine ord_drop rfl rfl (fun K hK => ?_))
                        | (refine ord_nil ?_))
        refine (HC.out _ (Mod.refl _ _).drew).mono ?_
        rintro e w8 ⟨rfl, hS8, hM8⟩
        have HT8 := Lib.hid (HT7.out.call hS8 hM8)
        have hb8 := hM8.at HB7.out (H.out.nch (by have := hg4.out; omega))
        refine hK _ _ ⟨cell_at (j := 0) hb8 rfl, cell_at (j := 1) hb8 rfl⟩ ?_
        clear hK K hS8 hM8 HC hb8 d0 d1 HT7 HB7
        have HBX := Lib.hid HT8.out.b0
        have c0 := cell_at (j := 0) HBX.out rfl
        have c1 := cell_at (j := 1) HBX.out rfl
        have c2 := cell_at (j := 2) HBX.out rfl
        have c3 := cell_at (j := 3) HBX.out rfl
        have c4 := cell_at (j := 4) HBX.out rfl
        have c5 := cell_at (j := 5) HBX.out rfl
        have c6 := cell_at (j := 6) HBX.out rfl
        have c7 := cell_at (j := 7) HBX.out rfl
        have f0 : (w8).frozen? ⟨w.heap.size, 0, none⟩ = false := frozen_at HBX.out
        have f1 : (w8).frozen? ⟨w.heap.size, 1, none⟩ = false := frozen_at HBX.out
        have f2 : (w8).frozen? ⟨w.heap.size, 2, none⟩ = false := frozen_at HBX.out
        have f3 : (w8).frozen? ⟨w.heap.size, 3, none⟩ = false := frozen_at HBX.out
        have f4 : (w8).frozen? ⟨w.heap.size, 4, none⟩ = false := frozen_at HBX.out
        have f5 : (w8).frozen? ⟨w.heap.size, 5, none⟩ = false := frozen_at HBX.out
        have f6 : (w8).frozen? ⟨w.heap.size, 6, none⟩ = false := frozen_at HBX.out
        have f7 : (w8).frozen? ⟨w.heap.size, 7, none⟩ = false := frozen_at HBX.out
        go_wp2_with (first
          | (refine ord_pure rfl rfl rfl (fun K hK => ?_); go_big_quiet_op; refine hK _ ?_; clear hK K)
                        | (refine ord_skip rfl rfl ?_; simp only [Act.put, List.setIfInBounds_toArray, List.set_cons_zero, List.set_cons_succ])
                        | (refine ord_held rfl rfl rfl (trivial) (fun K hK => ?_); apply Exists.intro; refine ⟨fun w' hs => ?_, hK _ ?_⟩; (revert hs; dsimp only; (try simp only [and_imp]); intros; go_simp; rfl); clear hK K)
                        | (refine ord_keep rfl rfl (trivial) (fun K hK => ?_))
                        | (refine ord_drop rfl rfl (fun K hK => ?_))
                        | (refine ord_nil ?_))
        go_wp2_with fail
        obtain ⟨w9, hw9⟩ : ∃ w9, w9 = ((((((((w8).setCell ⟨w.heap.size, 0, none⟩ (.int .i64 3)).setCell ⟨w.heap.size, 1, none⟩ (.string ⟨#[]⟩)).setCell ⟨w.heap.size, 2, none⟩ (.slice none 0 0)).setCell ⟨w.heap.size, 3, none⟩ (.int .i64 ((kd : Int) - 10 + 1))).setCell ⟨w.heap.size, 4, none⟩ (.int .i64 tk)).setCell ⟨w.heap.size, 5, none⟩ (.string s)).setCell ⟨w.heap.size, 6, none⟩ (.int .i64 rk)).setCell ⟨w.heap.size, 7, none⟩ (.string rs) := ⟨_, rfl⟩
        obtain ⟨b9, m9⟩ := lit_put (w8) w.heap.size (.int .i64 3) (.string ⟨#[]⟩) (.slice none 0 0) (.int .i64 ((kd : Int) - 10 + 1)) (.int .i64 tk) (.string s) (.int .i64 rk) (.string rs) HBX.out hw9
        rw [← hw9]
        clear hw9
        have e0 := cell_at (j := 0) b9 rfl
        have e1 := cell_at (j := 1) b9 rfl
        have e2 := cell_at (j := 2) b9 rfl
        have e3 := cell_at (j := 3) b9 rfl
        have e4 := cell_at (j := 4) b9 rfl
        have e5 := cell_at (j := 5) b9 rfl
        have e6 := cell_at (j := 6) b9 rfl
        have e7 := cell_at (j := 7) b9 rfl
        have mF : Mod (Far w) (w8) w9 := m9.mono fun _ _ e => Nat.le_of_eq e.symm
        refine bodyPost_ret (v := .agg #[.int .i64 3, .string ⟨#[]⟩, .slice none 0 0, .int .i64 ((kd : Int) - 10 + 1), .int .i64 tk, .string s, .int .i64 rk, .string rs]) (by simp [results, Tryz.results114, go_sem, e0, e1, e2, e3, e4, e5, e6, e7]) rfl ?_
        have hT9 : TsF w9 w.heap.size (.slice none 0 0) [] [] := ⟨none, rfl, Clp.of (Mine.Own.nil _ _ _), rfl, by simp⟩
        have he : (kd : Int) - 10 + 1 = (kd : Int) - 9 := by omega
        exact .inr ⟨_, HX.out, ⟨_, _, by rw [he]; rfl, hT9, H.out.far HT8.out.st mF⟩, Mod.far HT8.out.md mF⟩
end Go.Proofs.YteecbbnpgmceiaaGreatDoor
/-
  The parser: where a rule is being read.
-/
namespace Go.Proofs.YteecbbnpgmceiaaGreatDoor
open Go Go.RowKit Go.Mine
set_option linter.unusedVariables false
set_option maxHeartbeats 1000000
set_option maxRecDepth 100000

/-- a rule is being read: its head's terms in hbs, the literals xs with their terms in bss, the list of literals at a -/
structure RuI (E : Env) (w0 W : World) (k : Nat) (ag : Bool) (g3 : Nat) (pred : ByteArray) (hv : Value) (ts : List Tm) (hbs : List Nat) (xs : List (Lm × Value)) (bss : List (List Nat)) (a : Option Addr) (c : Nat) : Prop where
  base : ∃ k0 ag0, PSt w0 E k0 ag0
  st : PSt W E k ag
  md : Mod E.Ch w0 W
  b0 : W.heap[w0.heap.size]? = some (.cells #[.string ⟨#[]⟩, .slice none 0 0, .slice none 0 0] 46 (0, 0))
  b1 : W.heap[g3]? = some (.cells #[.string pred, hv, .slice a xs.length c] 46 (0, 0))
  gt : w0.heap.size < g3
  hd : TsF W (w0.heap.size + 1) hv ts hbs
  own : Mine.Own W 102 8 a xs.length c (lmsC xs)
  len : xs.length = bss.length
  tf : ∀ (i : Nat) (x : Lm × Value) (b : List Nat), xs[i]? = some x → bss[i]? = some b → TsF W (w0.heap.size + 1) x.2 x.1.atom.terms b
  nd : (hbs ++ bss.flatten).Nodup
  na : ∀ b, blk a = some b → b ∉ hbs ++ bss.flatten ∧ w0.heap.size < b ∧ b ≠ g3
  ng : g3 ∉ hbs ++ bss.flatten
section
variable {E : Env} {w0 W W' : World} {k k' g3 c c' : Nat} {ag ag' : Bool} {pred : ByteArray} {hv : Value} {ts : List Tm} {hbs : List Nat} {xs : List (Lm × Value)} {bss : List (List Nat)} {a a' : Option Addr}
/-- the blocks of what was read so far -/
theorem RuI.mem (h : RuI E w0 W k ag g3 pred hv ts hbs xs bss a c) {b : Nat} (hb : b ∈ hbs ++ bss.flatten) : w0.heap.size + 1 ≤ b ∧ b < W.heap.size := by
  rcases List.mem_append.1 hb with hb | hb
  · have h1 := h.hd.lt b hb
    obtain ⟨_, _, _, _, hl⟩ := h.hd
    exact ⟨hl b hb, h1⟩
  · obtain ⟨l, hl1, hl2⟩ := List.mem_flatten.1 hb
    obtain ⟨i, hi, rfl⟩ := List.getElem_of_mem hl1
    have hi' : i < xs.length := by rw [h.len]; exact hi
    have ht := h.tf i xs[i] bss[i] (List.getElem?_eq_getElem hi') (List.getElem?_eq_getElem hi)
    have h1 := ht.lt b hl2
    obtain ⟨_, _, _, _, hl⟩ := ht
    exact ⟨hl b hl2, h1⟩
theorem RuI.turn {T : Nat → Prop} (h : RuI E w0 W k ag g3 pred hv ts hbs xs bss a c) (hs : PSt W' E k' ag') (md : Mod E.Ch w0 W') (m : Mod T W W') (h0 : ¬ T w0.heap.size) (h1 : ¬ T g3) (h2 : ∀ b ∈ hbs ++ bss.flatten, ¬ T b) (h3 : ∀ b, blk a = some b → ¬ T b) : RuI E w0 W' k' ag' g3 pred hv ts hbs xs bss a c :=
  ⟨h.base, hs, md, m.at h.b0 h0, m.at h.b1 h1, h.gt, h.hd.mod m (fun b hb => h2 b (by simp [hb])), h.own.mod m h3, h.len,
    fun i x b hx hb => (h.tf i x b hx hb).mod m (fun y hy => h2 y (List.mem_append.2 (.inr (mem_flat hb hy)))), h.nd, h.na, h.ng⟩
theorem RuI.call (h : RuI E w0 W k ag g3 pred hv ts hbs xs bss a c) (hs : PSt W' E k' ag') (m : Mod E.Ch W W') : RuI E w0 W' k' ag' g3 pred hv ts hbs xs bss a c := by
  obtain ⟨k0, ag0, h0⟩ := h.base
  have hg := h.gt
  exact h.turn hs (h.md.trans m) m (h0.nch (Nat.le_refl _)) (h0.nch (Nat.le_of_lt hg)) (fun b hb => h0.nch (by have := (h.mem hb).1; omega)) (fun b hb => h0.nch (by have := (h.na b hb).2.1; omega))
theorem RuI.alloc (h : RuI E w0 W k ag g3 pred hv ts hbs xs bss a c) (o : Obj) : RuI E w0 (W.alloc o) k ag g3 pred hv ts hbs xs bss a c := h.call (h.st.alloc o) ((Mod.refl _ W).alloc o)
theorem RuI.lt (h : RuI E w0 W k ag g3 pred hv ts hbs xs bss a c) : w0.heap.size < W.heap.size ∧ g3 < W.heap.size := ⟨(Array.getElem?_eq_some_iff.1 h.b0).1, (Array.getElem?_eq_some_iff.1 h.b1).1⟩
/-- one literal more; W0: where its reading began -/
theorem RuI.step {W0 : World} {k0 : Nat} (h0 : RuI E w0 W0 k0 ag g3 pred hv ts hbs xs bss a c) (h : RuI E w0 W k ag g3 pred hv ts hbs xs bss a c) {l : Lm} {v : Value} {bs : List Nat} (ht : TsF W W0.heap.size v l.atom.terms bs)
    {W1 : World} {us : List Value} (hu : us = lmC (l, v)) (ho : Mine.Own W1 102 8 a' (xs.length + 1) c' (lmsC xs ++ us)) (hg : ∃ W2, Mod (fun _ => False) W W2 ∧ Grow W2 a W1 a') :
    RuI E w0 (W1.setCell ⟨g3, 2, none⟩ (.slice a' (xs.length + 1) c')) k ag g3 pred hv ts hbs (xs ++ [(l, v)]) (bss ++ [bs]) a' c' := by
  obtain ⟨kb, agb, hb0⟩ := h.base
  obtain ⟨W2, m2, hg⟩ := hg
  have hgt := h.gt
  have hlt := h.lt
  have hlt0 := h0.lt
  have hbslt := ht.lt
  have hbsge : ∀ b ∈ bs, W0.heap.size ≤ b := by obtain ⟨_, _, _, _, hl⟩ := ht; exact hl
  have hold : ∀ b ∈ hbs ++ bss.flatten, b < W0.heap.size := fun b hb => (h0.mem hb).2
  have hna0 : ∀ b, blk a = some b → b < W0.heap.size := h0.own.lt
  have hdis : ∀ b ∈ bs, b ∉ hbs ++ bss.flatten := fun b hb hh => by have := hold b hh; have := hbsge b hb; omega
  have mT : Mod (fun b => blk a = some b) W W1 := (m2.mono fun _ _ f => f.elim).trans (hg.mod.mono fun _ _ h => h)
  have mF : Mod (Far w0) W W1 := mT.mono fun b _ hb => by have := (h.na b hb).2.1; unfold Far; omega
  have hpos : ∀ b, blk a' = some b → (blk a = some b) ∨ W.heap.size ≤ b := by
    intro b hb
    rcases hg.pos with e | ⟨b', e, hb'⟩
    · rw [e] at hb; exact .inl hb
    · rw [e] at hb; cases hb; have := m2.size; exact .inr (by omega)
  have hna' : ∀ b, blk a' = some b → b ∉ hbs ++ (bss ++ [bs]).flatten ∧ w0.heap.size < b ∧ b ≠ g3 := by
    intro b hb
    rcases hpos b hb with hb' | hb'
    · obtain ⟨q1, q2, q3⟩ := h.na b hb'
      refine ⟨?_, q2, q3⟩
      rw [List.flatten_append, ← List.append_assoc]
      intro hh
      rcases List.mem_append.1 hh with hh | hh
      · exact q1 hh
      · have := hbsge b (by simpa using hh); have := hna0 b hb'; omega
    · refine ⟨?_, by omega, by omega⟩
      rw [List.flatten_append, ← List.append_assoc]
      intro hh
      rcases List.mem_append.1 hh with hh | hh
      · have := (h.mem hh).2; omega
      · have := hbslt b (by simpa using hh); omega
  have m3 : Mod (Far w0) W (W1.setCell ⟨g3, 2, none⟩ (.slice a' (xs.length + 1) c')) := mF.setCell (p := ⟨g3, 2, none⟩) (fun _ => Nat.le_of_lt hgt) _
  have m4 : Mod (fun b => b = g3) W1 (W1.setCell ⟨g3, 2, none⟩ (.slice a' (xs.length + 1) c')) := (Mod.refl (fun b => b = g3) W1).setCell (p := ⟨g3, 2, none⟩) (fun _ => rfl) _
  have mU : Mod (fun b => blk a = some b ∨ b = g3) W (W1.setCell ⟨g3, 2, none⟩ (.slice a' (xs.length + 1) c')) := (mT.mono fun _ _ h => .inl h).setCell (p := ⟨g3, 2, none⟩) (fun _ => .inr rfl) _
  have hlen : (xs ++ [(l, v)]).length = xs.length + 1 := by simp
  have hold2 : ∀ b ∈ hbs ++ bss.flatten, ¬ (blk a = some b ∨ b = g3) := by
    rintro b hb (hh | rfl)
    · exact (h.na b hh).1 hb
    · exact h.ng hb
  have hnew2 : ∀ b ∈ bs, ¬ (blk a = some b ∨ b = g3) := by
    rintro b hb (hh | rfl)
    · have := hna0 b hh; have := hbsge b hb; omega
    · have := hbsge b hb; omega
  have b1 := mT.at h.b1 (fun hh => (h.na g3 hh).2.2 rfl)
  refine ⟨h.base, hb0.far h.st m3, Mod.far h.md m3, mU.at h.b0 ?_, ?_, h.gt, h.hd.mod mU (fun b hb => hold2 b (by simp [hb])), ?_, ?_, ?_, ?_, hna', ?_⟩
  · rintro (hh | hh)
    · have := (h.na _ hh).2.1; omega
    · omega
  · rw [hlen]; exact heap_setCell_at (j := 2) (.slice a' (xs.length + 1) c') b1
  · rw [hlen, lmsC_append]
    subst hu
    have := ho.mod m4 (fun b hb => (hna' b hb).2.2)
    simpa [lmsC] using this
  · simp [h.len]
  · intro i x b hx hb
    by_cases hi : i < xs.length
    · rw [List.getElem?_append_left hi] at hx
      rw [List.getElem?_append_left (by rw [← h.len]; exact hi)] at hb
      exact (h.tf i x b hx hb).mod mU (fun y hy => hold2 y (List.mem_append.2 (.inr (mem_flat hb hy))))
    · have hi2 : i = xs.length := by
        have := (List.getElem?_eq_some_iff.1 hx).1
        simp at this; omega
      subst hi2
      rw [List.getElem?_append_right (Nat.le_refl _)] at hx
      rw [h.len, List.getElem?_append_right (Nat.le_refl _)] at hb
      simp at hx hb
      subst hx hb
      exact (ht.mono (by omega)).mod mU hnew2
  · rw [List.flatten_append, ← List.append_assoc]
    refine List.nodup_append.2 ⟨h.nd, by simpa using ht.nodup, ?_⟩
    intro x hx y hy e
    subst e
    exact hdis x (by simpa using hy) hx
  · rw [List.flatten_append, ← List.append_assoc]
    intro hh
    rcases List.mem_append.1 hh with hh | hh
    · exact h.ng hh
    · have := hbsge g3 (by simpa using hh); omega
end
def ResRm (E : Env) (lo : Nat) (r : Rm × Nat × Bool) (e : Ending) (w' : World) : Prop :=
  ∃ hv v hbs bs, e = .returned (rmV r.1 hv v) ∧ TsF w' lo hv r.1.head.terms hbs ∧ LsF w' lo v r.1.body bs ∧ (hbs ++ bs).Nodup ∧ PSt w' E r.2.1 r.2.2
end Go.Proofs.YteecbbnpgmceiaaGreatDoor
/-
  The parser: rules.
-/
namespace Go.Proofs.YteecbbnpgmceiaaGreatDoor
open Go Go.RowKit Go.Mine
set_option linter.unusedVariables false
set_option maxHeartbeats 1000000
set_option maxRecDepth 100000

theorem want4b (E : Env) (k : Nat) (agg : Bool) (w : World) (h : PSt w E k agg) (g : Nat) (hg : g = w.heap.size := by first | rfl | simp) :
    Calls Tryz.prog 105 #[.pointer (some ⟨E.bp, 0, none⟩), .slice (some ⟨g, 0, none⟩) 4 4] (w.alloc (.cells #[.int .i64 1, .int .i64 2, .int .i64 3, .int .i64 9] 3)) fun e w' => ((∃ x, wantP E.S k [1, 2, 3, 9] = .error x ∧ e = .panicked (wrongE x)) ∨ (wantP E.S k [1, 2, 3, 9] = .ok () ∧ e = .returned (.tuple #[]))) ∧ w.alloc (.cells #[.int .i64 1, .int .i64 2, .int .i64 3, .int .i64 9] 3) = w' := by
  subst hg
  exact want_any E k agg (some ⟨w.heap.size, 0, none⟩) 4 [1, 2, 3, 9] _ (h.alloc _) (Rd.news w [.int .i64 1, .int .i64 2, .int .i64 3, .int .i64 9] _) (by simp)
/-- the rule's answer out of its two blocks -/
theorem RuI.fin {E : Env} {w0 W : World} {k k0 g3 c : Nat} {ag ag0 : Bool} {pred : ByteArray} {hv : Value} {ts : List Tm} {hbs : List Nat} {xs : List (Lm × Value)} {bss : List (List Nat)} {a : Option Addr} (hb : PSt w0 E k0 ag0)
    (h : RuI E w0 W k ag g3 pred hv ts hbs xs bss a c) {W' : World}
    (e : W' = ((((W.setCell ⟨g3, 2, none⟩ (.slice a xs.length xs.length)).setCell ⟨w0.heap.size, 0, none⟩ (.string pred)).setCell ⟨w0.heap.size, 1, none⟩ hv).setCell ⟨w0.heap.size, 2, none⟩ (.slice a xs.length xs.length))) :
    W'.heap[w0.heap.size]? = some (.cells #[.string pred, hv, .slice a xs.length xs.length] 46 (0, 0)) ∧ Mod E.Ch w0 W' ∧ PSt W' E k ag ∧ TsF W' w0.heap.size hv ts hbs ∧ LsF W' w0.heap.size (.slice a xs.length xs.length) (xs.map Prod.fst) ((blk a).toList ++ bss.flatten) ∧ (hbs ++ ((blk a).toList ++ bss.flatten)).Nodup := by
  have hgt := h.gt
  have m1 : Mod (fun b => b = g3) W (W.setCell ⟨g3, 2, none⟩ (.slice a xs.length xs.length)) := (Mod.refl (fun b => b = g3) W).setCell (p := ⟨g3, 2, none⟩) (fun _ => rfl) _
  have b0 := m1.at h.b0 (by omega)
  generalize W.setCell ⟨g3, 2, none⟩ (.slice a xs.length xs.length) = W1 at *
  have h0 : (W1.setCell ⟨w0.heap.size, 0, none⟩ (.string pred)).heap[w0.heap.size]? = some (.cells #[.string pred, .slice none 0 0, .slice none 0 0] 46 (0, 0)) := heap_setCell_at (j := 0) _ b0
  have m2 : Mod (fun b => b = g3 ∨ b = w0.heap.size) W (W1.setCell ⟨w0.heap.size, 0, none⟩ (.string pred)) := (m1.mono fun _ _ h => .inl h).setCell (p := ⟨w0.heap.size, 0, none⟩) (fun _ => .inr rfl) _
  generalize W1.setCell ⟨w0.heap.size, 0, none⟩ (.string pred) = W2 at *
  have h1 : (W2.setCell ⟨w0.heap.size, 1, none⟩ hv).heap[w0.heap.size]? = some (.cells #[.string pred, hv, .slice none 0 0] 46 (0, 0)) := heap_setCell_at (j := 1) _ h0
  have m3 : Mod (fun b => b = g3 ∨ b = w0.heap.size) W (W2.setCell ⟨w0.heap.size, 1, none⟩ hv) := m2.setCell (p := ⟨w0.heap.size, 1, none⟩) (fun _ => .inr rfl) _
  generalize W2.setCell ⟨w0.heap.size, 1, none⟩ hv = W3 at *
  have h2 : W'.heap[w0.heap.size]? = some (.cells #[.string pred, hv, .slice a xs.length xs.length] 46 (0, 0)) := by rw [e]; exact heap_setCell_at (j := 2) _ h1
  have m4 : Mod (fun b => b = g3 ∨ b = w0.heap.size) W W' := by rw [e]; exact m3.setCell (p := ⟨w0.heap.size, 2, none⟩) (fun _ => .inr rfl) _
  clear e
  have mF : Mod (Far w0) W W' := m4.mono fun b _ hb => by rcases hb with rfl | rfl <;> unfold Far <;> omega
  have hno : ∀ b ∈ hbs ++ bss.flatten, ¬ (b = g3 ∨ b = w0.heap.size) := by
    rintro b hb (rfl | rfl)
    · exact h.ng hb
    · have := (h.mem hb).1; omega
  have hno2 : ∀ b, blk a = some b → ¬ (b = g3 ∨ b = w0.heap.size) := by
    rintro b hb (rfl | rfl)
    · exact (h.na _ hb).2.2 rfl
    · have := (h.na _ hb).2.1; omega
  have hnd : (hbs ++ ((blk a).toList ++ bss.flatten)).Nodup := by
    cases hba : blk a with
    | none => simpa using h.nd
    | some b =>
      have h3 := (h.na b hba).1
      have h4 := h.nd
      have hp : (hbs ++ (b :: bss.flatten)).Nodup := (List.perm_middle.nodup_iff).2 (List.nodup_cons.2 ⟨h3, h4⟩)
      simpa using hp
  refine ⟨h2, Mod.far h.md mF, hb.far h.st mF, (h.hd.mono (by omega)).mod m4 (fun b hb => hno b (by simp [hb])), ?_, hnd⟩
  refine ⟨a, xs, bss, by simp, ?_, rfl, h.len, fun i x b hx hb => ((h.tf i x b hx hb).mono (by omega)).mod m4 (fun y hy => hno y (List.mem_append.2 (.inr (mem_flat hb hy)))), rfl, (List.nodup_append.1 hnd).2.1, ?_⟩
  · have := (Clp.of h.own).mod m4 hno2
    simpa using this
  · intro b hb
    rcases List.mem_append.1 hb with hb | hb
    · have := (h.na b (by simpa using hb)).2.1; omega
    · have := (h.mem (List.mem_append.2 (.inr hb))).1; omega
theorem rule_any (E : Env) (k : Nat) (agg : Bool) (w : World) (h : PSt w E k agg) :
    Calls Tryz.prog 57 #[.pointer (some ⟨E.bp, 0, none⟩)] w (PP E w (ruleP E.S k) (ResRm E w.heap.size)) := by
  have h0 := h.alloc (.cells #[.string ⟨#[]⟩, .slice none 0 0, .slice none 0 0] 46)
  have b0 := heap_alloc_new w (.cells #[.string ⟨#[]⟩, .slice none 0 0, .slice none 0 0] 46)
  have a5 := h0.fz 5
  have a6 := h0.aggC
  have m0 : Mod E.Ch w (w.alloc (.cells #[.string ⟨#[]⟩, .slice none 0 0, .slice none 0 0] 46)) := (Mod.refl _ w).alloc _
  obtain ⟨s1, m1⟩ := h0.setAgg false
  have HB1 := Lib.hid (m1.at b0 (h.nch (Nat.le_refl _)))
  have HM1 := Lib.hid (m0.trans m1)
  have HS1 := Lib.hid s1
  have HA := Lib.hid (atom_any E true _ (one_part E) k false _ s1)
  have HD : Hid (ruleP E.S k = (atomP true E.S k false).bind fun h => (bodyP E.S h.2.1 h.2.2).bind fun b => (markP E.S b.2 7).bind fun k3 => .ok (⟨h.1, b.1⟩, k3, h.2.2)) := rfl
  have H := Lib.hid h
  have hz1 : ((w.alloc (.cells #[.string ⟨#[]⟩, .slice none 0 0, .slice none 0 0] 46)).setCell ⟨E.bp, 5, none⟩ (.bool false)).heap.size = w.heap.size + 1 := by simp
  have HZ1 := Lib.hid hz1
  clear h h0 b0 m0 s1 m1 hz1
  go_enter Tryz.func57, Tryz.ntmps57
  go_wp2_with fail
  refine HA.out.mono ?_
  rintro e w3 (⟨x, hx, rfl, hM⟩ | ⟨⟨⟨p', ts⟩, k2, ag3⟩, hx, ⟨hv, hbs, rfl, hTs, hS⟩, hM⟩)
  · have HX := Lib.hid (show ruleP E.S k = .error x by rw [HD.out, hx]; rfl)
    have HM := Lib.hid (HM1.out.trans hM); clear hx hM
    go_wp2_with fail
    exact ⟨rfl, .inl ⟨x, HX.out, rfl, HM.out⟩⟩
  simp only at hTs hS ⊢
  rw [HZ1.out] at hTs
  have HX := Lib.hid (show ruleP E.S k = (bodyP E.S k2 ag3).bind fun b => (markP E.S b.2 7).bind fun k3 => .ok (⟨⟨p', ts⟩, b.1⟩, k3, ag3) by rw [HD.out, hx]; rfl)
  have hb3 := hM.at HB1.out (H.out.nch (Nat.le_refl _))
  have hlt3 : w.heap.size < w3.heap.size := (Array.getElem?_eq_some_iff.1 hb3).1
  obtain ⟨av, hv', _⟩ := id hTs
  have m4 : Mod (fun _ => False) w3 (w3.alloc (.cells #[.string p', hv, .slice none 0 0] 46)) := (Mod.refl _ w3).alloc _
  have hI : RuI E w (w3.alloc (.cells #[.string p', hv, .slice none 0 0] 46)) k2 ag3 w3.heap.size p' hv ts hbs [] [] none 0 :=
    ⟨⟨_, _, H.out⟩, hS.mod0 m4, (HM1.out.trans hM).trans (m4.mono fun _ _ f => f.elim), m4.at hb3 id, heap_alloc_new w3 _, hlt3, hTs.mod m4 (fun _ _ => id), Mine.Own.nil _ _ _, rfl, (fun i x b hx => by simp at hx), by simpa using hTs.nodup, by simp, fun hh => by
      have := hTs.lt w3.heap.size (by simpa using hh); omega⟩
  have HT4 := Lib.hid (hI.alloc (.cells #[.int .i64 8] 3))
  have HI8 := Lib.hid (is1 E k2 ag3 8 _ hI.st (w3.heap.size + 1) 8)
  subst hv'
  clear hx hM hTs hS hb3 m4 hI HD HA HB1 HM1 HS1 HZ1 a5 a6
  go_wp2_with fail
  refine HI8.out.mono ?_
  rintro e w' ⟨(⟨x, hx, rfl⟩ | ⟨b, hx, rfl⟩), rfl⟩
  · have HX2 := Lib.hid (show ruleP E.S k = .error x by rw [HX.out]; unfold bodyP; rw [hx]; rfl); clear hx
    go_wp2_with fail
    exact ⟨rfl, .inl ⟨x, HX2.out, rfl, HT4.out.md⟩⟩
  obtain ⟨g3, hg3⟩ : ∃ g3, g3 = w3.heap.size := ⟨_, rfl⟩
  rw [← hg3] at HT4 hlt3 ⊢
  obtain ⟨w5, hw5⟩ : ∃ w5, w5 = (w3.alloc (.cells #[.string p', .slice av ts.length ts.length, .slice none 0 0] 46)).alloc (.cells #[.int .i64 8] 3) := ⟨_, rfl⟩
  rw [← hw5] at HT4 ⊢
  clear HI8 hw5 hg3
  cases b with
  | false =>
    have HXF := Lib.hid (show ruleP E.S k = (markP E.S k2 7).bind fun k3 => .ok (⟨⟨p', ts⟩, ([] : List (Lm × Value)).map Prod.fst⟩, k3, ag3) by rw [HX.out]; unfold bodyP; rw [hx]; rfl)
    clear hx HX
    have HMK := Lib.hid (mark_any E k2 ag3 7 _ HT4.out.st (by omega))
    go_wp2_with fail
    refine HMK.out.mono ?_
    rintro e w8 (⟨x, hx, rfl, hM⟩ | ⟨k3, hx, ⟨rfl, hS⟩, hM⟩)
    · have HX := Lib.hid (show ruleP E.S k = .error x by rw [HXF.out, hx]; rfl)
      have HM := Lib.hid (HT4.out.md.trans hM); clear hx hM
      go_wp2_with fail
      exact ⟨rfl, .inl ⟨x, HX.out, rfl, HM.out⟩⟩
    have HX := Lib.hid (show ruleP E.S k = .ok (⟨⟨p', ts⟩, ([] : List (Lm × Value)).map Prod.fst⟩, k3, ag3) by rw [HXF.out, hx]; rfl)
    have HT8 := Lib.hid (HT4.out.call hS hM)
    clear hx hS hM HMK HXF
    have HCL := Lib.hid (clipL_any none _ _ _ w8 HT8.out.own (by simp))
    have c0 := cell_at (j := 0) HT8.out.b0 rfl
    have c1 := cell_at (j := 1) HT8.out.b0 rfl
    have c2 := cell_at (j := 2) HT8.out.b0 rfl
    have f0 : w8.frozen? ⟨w.heap.size, 0, none⟩ = false := frozen_at HT8.out.b0
    have f1 : w8.frozen? ⟨w.heap.size, 1, none⟩ = false := frozen_at HT8.out.b0
    have f2 : w8.frozen? ⟨w.heap.size, 2, none⟩ = false := frozen_at HT8.out.b0
    have d0 := cell_at (j := 0) HT8.out.b1 rfl
    have d1 := cell_at (j := 1) HT8.out.b1 rfl
    have d2 := cell_at (j := 2) HT8.out.b1 rfl
    have q2 : w8.frozen? ⟨g3, 2, none⟩ = false := frozen_at HT8.out.b1
    go_wp2_with fail
    refine HCL.out.mono ?_
    rintro e w' ⟨rfl, rfl⟩
    go_wp2_with fail
    obtain ⟨w9, hw9⟩ : ∃ w9, w9 = ((((w8.setCell ⟨g3, 2, none⟩ (.slice none 0 0)).setCell ⟨w.heap.size, 0, none⟩ (.string p')).setCell ⟨w.heap.size, 1, none⟩ (.slice av ts.length ts.length)).setCell ⟨w.heap.size, 2, none⟩ (.slice none 0 0)) := ⟨_, rfl⟩
    obtain ⟨b9, m9, s9, t9, l9, n9⟩ := RuI.fin H.out HT8.out hw9
    rw [← hw9]
    clear hw9
    have e0 := cell_at (j := 0) b9 rfl
    have e1 := cell_at (j := 1) b9 rfl
    have e2 := cell_at (j := 2) b9 rfl
    refine bodyPost_ret (v := .agg #[.string p', .slice av ts.length ts.length, .slice none 0 0]) (by simp [results, Tryz.results57, go_sem, e0, e1, e2]) rfl ?_
    exact .inr ⟨_, HX.out, ⟨_, _, _, _, rfl, t9, l9, n9, s9⟩, m9⟩
  | true =>
    have hlt := is_in hx (by omega)
    have HXe : Hid (∀ x, bodyGo E.S ag3 65 k2 [] = .error x → ruleP E.S k = .error x) := fun x h => by rw [HX.out]; unfold bodyP; rw [hx, bind_ok', if_pos rfl, h]; rfl
    have HXm : Hid (∀ r, bodyGo E.S ag3 65 k2 [] = .ok r → ruleP E.S k = (markP E.S r.2 7).bind fun k3 => .ok (⟨⟨p', ts⟩, r.1⟩, k3, ag3)) := fun r h => by rw [HX.out]; unfold bodyP; rw [hx, bind_ok', if_pos rfl, h]; rfl
    clear hx HX
    go_wp2_with fail
    go_loopg [] 65 (fun n wr => ∃ (k' : Nat) (xs : List (Lm × Value)) (bss : List (List Nat)) (a : Option Addr) (c : Nat), n + xs.length = 65 ∧ 0 < n ∧ k' < E.S.ts.length ∧ Hid (RuI E w wr k' ag3 g3 p' (.slice av ts.length ts.length) ts hbs xs bss a c) ∧ Hid (bodyGo E.S ag3 65 k2 [] = bodyGo E.S ag3 n k' (xs.map Prod.fst)))
    case atStart => exact ⟨k2, [], [], none, 0, rfl, by omega, hlt, HT4, Lib.hid rfl⟩
    case round =>
      obtain ⟨k', xs, bss, a, c, hn, hpos, hlt', hI, hL⟩ := hrel
      clear hlt HT4
      obtain ⟨n, rfl⟩ : ∃ n, gk = n + 1 := ⟨gk - 1, by omega⟩
      have HS := Lib.hid (step_any E k' ag3 wr hI.out.st hlt')
      go_wp2_with fail
      refine HS.out.mono ?_
      rintro e w2 ⟨rfl, hS, hM⟩
      have HT2 := Lib.hid (hI.out.call hS hM)
      clear hS hM HS hI
      have HW := Lib.hid (want4b E (k' + 1) ag3 w2 HT2.out.st w2.heap.size)
      have HT3 := Lib.hid (HT2.out.alloc (.cells #[.int .i64 1, .int .i64 2, .int .i64 3, .int .i64 9] 3))
      have HG := Lib.hid (bodyGo.eq_2 E.S ag3 k' (xs.map Prod.fst) n)
      go_wp2_with fail
      refine HW.out.mono ?_
      rintro e w' ⟨(⟨x, hx, rfl⟩ | ⟨hx, rfl⟩), rfl⟩
      · have HX := Lib.hid hx; clear hx
        go_wp2_with fail
        exact ⟨rfl, .inl ⟨x, HXe.out x (by rw [hL.out, HG.out, HX.out]; rfl), rfl, HT3.out.md⟩⟩
      have hlt2 := want_in hx (by decide)
      have HG2 := Lib.hid (show bodyGo E.S ag3 (n + 1) k' (xs.map Prod.fst) = (if xs.length = 64 then .error (82, (E.S.tok (k' + 1)).at_) else
        (litP E.S (k' + 1) ag3).bind fun r => (isP E.S r.2 [6]).bind fun c => if c = true then bodyGo E.S ag3 n r.2 (xs.map Prod.fst ++ [r.1]) else .ok (xs.map Prod.fst ++ [r.1], r.2)) by rw [HG.out, hx, bind_ok', List.length_map])
      obtain ⟨w3', hw3⟩ : ∃ w3', w3' = w2.alloc (.cells #[.int .i64 1, .int .i64 2, .int .i64 3, .int .i64 9] 3) := ⟨_, rfl⟩
      rw [← hw3] at HT3 ⊢
      clear hw3 HW HT2 hx HG
      have d1 := cell_at (j := 2) HT3.out.b1 rfl
      by_cases h64 : xs.length = 64
      · have HX := Lib.hid (HXe.out _ (by rw [hL.out, HG2.out, if_pos h64]))
        have HGV := Lib.hid (give_any E (k' + 1) ag3 82 w3' HT3.out.st)
        rw [h64] at d1
        go_wp2_with fail
        refine HGV.out.mono ?_
        rintro e w' ⟨rfl, rfl⟩
        go_wp2_with fail
        exact ⟨rfl, .inl ⟨_, HX.out, rfl, HT3.out.md⟩⟩
      · have h64b : xs.length < 64 := by omega
        have HG3 := Lib.hid (HG2.out.trans (if_neg h64))
        clear HG2 h64
        cases ho : litP E.S (k' + 1) ag3 with
        | error x =>
          have HX := Lib.hid (HXe.out x (by rw [hL.out, HG3.out, ho]; rfl))
          have HC : Hid (∀ W, Mod (fun _ => False) w3' W → Calls Tryz.prog 114 #[.pointer (some ⟨E.bp, 0, none⟩)] W fun e w' => e = .panicked (wrongE x) ∧ Mod E.Ch w3' w') := fun W hm => (literal_any E (k' + 1) ag3 W (HT3.out.st.mod0 hm)).mono fun e w' h => by
            rcases h with ⟨y, h1, h2, h3⟩ | ⟨r, h1, _⟩
            · rw [ho] at h1; cases h1; exact ⟨h2, (hm.mono fun _ _ f => f.elim).trans h3⟩
            · rw [ho] at h1; cases h1
          clear ho
          go_wp2_with fail
          refine wp_region_pan (fun w' => w'.cell? ⟨g3, 2, none⟩ = some (.slice a xs.length c)) 3 [(0, 0), (1, 1), (0, 2)] (by kernel_rfl) (by kernel_rfl) ?_
          go_wp2_with (first
            | (refine ord_pure rfl rfl rfl (fun K hK => ?_); go_big_quiet_op; refine hK _ ?_; clear hK K)
                        | (refine ord_skip rfl rfl ?_; simp only [Act.put, List.setIfInBounds_toArray, List.set_cons_zero, List.set_cons_succ])
                        | (refine ord_held rfl rfl rfl (by simpa using d1) (fun K hK => ?_); apply Exists.intro; refine ⟨fun w' hs => ?_, hK _ ?_⟩; (revert hs; dsimp only; (try simp only [and_imp]); intros; go_simp; rfl); clear hK K)
                        | (refine ord_keep rfl rfl (by simpa using d1) (fun K hK => ?_))
                        | (refine ord_drop rfl rfl (fun K hK => ?_))
                        | (refine ord_nil ?_))
          refine pan_step rfl rfl rfl ?_
          go_simp
          refine (HC.out _ (Mod.refl _ _).drew).mono ?_
          rintro e w' ⟨rfl, hM⟩
          exact ⟨rfl, fun a' ha => ⟨ha, .inl ⟨x, HX.out, rfl, HT3.out.md.trans hM⟩⟩⟩
        | ok r =>
          obtain ⟨l, k4⟩ := r
          have HG4 := Lib.hid (show bodyGo E.S ag3 (n + 1) k' (xs.map Prod.fst) = (isP E.S k4 [6]).bind fun c => if c = true then bodyGo E.S ag3 n k4 (xs.map Prod.fst ++ [l]) else .ok (xs.map Prod.fst ++ [l], k4) by rw [HG3.out, ho]; rfl)
          have HC : Hid (∀ W, Mod (fun _ => False) w3' W → Calls Tryz.prog 114 #[.pointer (some ⟨E.bp, 0, none⟩)] W fun e w' => ∃ v bs, e = .returned (lmV l v) ∧ TsF w' w3'.heap.size v l.atom.terms bs ∧ PSt w' E k4 ag3 ∧ Mod E.Ch w3' w') := fun W hm => (literal_any E (k' + 1) ag3 W (HT3.out.st.mod0 hm)).mono fun e w' h => by
            rcases h with ⟨y, h1, h2, h3⟩ | ⟨r, h1, ⟨v, bs, h2, h4, h5⟩, h3⟩
            · rw [ho] at h1; cases h1
            · rw [ho] at h1; cases h1; exact ⟨v, bs, h2, h4.mono hm.size, h5, (hm.mono fun _ _ f => f.elim).trans h3⟩
          clear ho HG3
          go_wp2_with fail
          refine wp_region_ord (fun w' => w'.cell? ⟨g3, 2, none⟩ = some (.slice a xs.length c)) [(0, 0), (1, 1), (0, 2), (2, 3), (2, 4), (3, 5), (0, 6), (3, 7)] (by kernel_rfl) (by kernel_rfl) ?_
          go_wp2_with (first
            | (refine ord_pure rfl rfl rfl (fun K hK => ?_); go_big_quiet_op; refine hK _ ?_; clear hK K)
                        | (refine ord_skip rfl rfl ?_; simp only [Act.put, List.setIfInBounds_toArray, List.set_cons_zero, List.set_cons_succ])
                        | (refine ord_held rfl rfl rfl (by simpa using d1) (fun K hK => ?_); apply Exists.intro; refine ⟨fun w' hs => ?_, hK _ ?_⟩; (revert hs; dsimp only; (try simp only [and_imp]); intros; go_simp; rfl); clear hK K)
                        | (refine ord_keep rfl rfl (by simpa using d1) (fun K hK => ?_))
                        | (refine ord_drop rfl rfl (fun K hK => ?_))
                        | (refine ord_nil ?_))
          refine (HC.out _ (Mod.refl _ _).drew).mono ?_
          rintro e w4 ⟨v, bs, rfl, hTs4, hS4, hM4⟩
          have HT4 := Lib.hid (HT3.out.call hS4 hM4)
          have d1 := cell_at (j := 2) HT4.out.b1 rfl
          have HTS4 := Lib.hid hTs4
          obtain ⟨la, hv4, _⟩ := id hTs4
          obtain ⟨lk, ⟨lp, lts⟩, lo, ⟨ll1, ll2⟩, ⟨lr1, lr2⟩⟩ := l
          simp only at hv4
          subst hv4
          unfold lmV
          simp only
          refine hK _ _ d1 ?_
          clear hK K hS4 hM4 HC hTs4
          go_wp2_with (first
            | (refine ord_pure rfl rfl rfl (fun K hK => ?_); go_big_quiet_op; refine hK _ ?_; clear hK K)
                        | (refine ord_skip rfl rfl ?_; simp only [Act.put, List.setIfInBounds_toArray, List.set_cons_zero, List.set_cons_succ])
                        | (refine ord_held rfl rfl rfl (by simpa using d1) (fun K hK => ?_); apply Exists.intro; refine ⟨fun w' hs => ?_, hK _ ?_⟩; (revert hs; dsimp only; (try simp only [and_imp]); intros; go_simp; rfl); clear hK K)
                        | (refine ord_keep rfl rfl (by simpa using d1) (fun K hK => ?_))
                        | (refine ord_drop rfl rfl (fun K hK => ?_))
                        | (refine ord_nil ?_))
          have m5 : Mod (fun _ => False) w4 (w4.alloc (.cells #[.int .i64 lk, .string lp, .slice la lts.length lts.length, .int .i64 lo, .int .i64 ll1, .string ll2, .int .i64 lr1, .string lr2] 102)) := (Mod.refl _ w4).alloc _
          have d15 := m5.cell d1 id
          refine hK _ _ d15 ?_
          clear hK K
          have HO5 := Lib.hid (HT4.out.own.mod m5 (fun _ _ => id))
          go_wp2_with (first
            | (refine ord_drop rfl rfl (fun K hK => ?_); refine wpO_append (.tmp 25) (.tmp 28) 44 44 rfl tiL rfl HO5.out rfl (Src.ofRd tiL.ht 1 1 (Rd.news w4 [_, _, _, _, _, _, _, _] 102) (by simp) (by simp [Value.oneCell'])) (by omega) (by unfold maxLen; omega) ?_; intro a3 c3 w5' hO3 hG3 _
               have hb5 := hG3.mod.at (m5.at HT4.out.b1 id) (fun e => (HT4.out.na _ e).2.2 rfl)
               have g5 := cell_at (j := 2) hb5 rfl
               have q5 : w5'.frozen? ⟨g3, 2, none⟩ = false := frozen_at hb5
               have HO3 := Lib.hid hO3; have HG5 := Lib.hid hG3; have HM5 := Lib.hid m5
               clear hO3 hG3 hb5 m5 d15 d1 HO5
               refine hK _ _ ?_; clear hK K)
            | (refine ord_pure rfl rfl rfl (fun K hK => ?_); go_big_quiet_op; refine hK _ ?_; clear hK K)
                        | (refine ord_skip rfl rfl ?_; simp only [Act.put, List.setIfInBounds_toArray, List.set_cons_zero, List.set_cons_succ])
                        | (refine ord_held rfl rfl rfl (by simpa using d15) (fun K hK => ?_); apply Exists.intro; refine ⟨fun w' hs => ?_, hK _ ?_⟩; (revert hs; dsimp only; (try simp only [and_imp]); intros; go_simp; rfl); clear hK K)
                        | (refine ord_keep rfl rfl (by simpa using d15) (fun K hK => ?_))
                        | (refine ord_drop rfl rfl (fun K hK => ?_))
                        | (refine ord_nil ?_))
          have hT6 := RuI.step (l := ⟨lk, ⟨lp, lts⟩, lo, ⟨ll1, ll2⟩, ⟨lr1, lr2⟩⟩) (v := .slice la lts.length lts.length) HT3.out HT4.out HTS4.out rfl HO3.out ⟨_, HM5.out, HG5.out⟩
          obtain ⟨w6, hw6⟩ : ∃ w6, w6 = w5'.setCell ⟨g3, 2, none⟩ (.slice a3 (xs.length + 1) c3) := ⟨_, rfl⟩
          have hz6 : w5'.heap.size = w6.heap.size := by rw [hw6]; simp
          rw [← hw6] at hT6 ⊢
          rw [hz6]
          clear hz6 hw6 HO3 HG5 HM5 HT4 g5 q5 HTS4
          have HT6 := Lib.hid hT6; clear hT6
          have HI6 := Lib.hid (is1 E k4 ag3 6 _ HT6.out.st w6.heap.size 6)
          have HT7 := Lib.hid (HT6.out.alloc (.cells #[.int .i64 6] 3))
          have HME : Hid (∀ (l : Lm) (v : Value), (xs ++ [(l, v)]).map Prod.fst = xs.map Prod.fst ++ [l]) := fun l v => by simp
          refine HI6.out.mono ?_
          rintro e w' ⟨(⟨x, hx, rfl⟩ | ⟨b, hx, rfl⟩), rfl⟩
          · have HX := Lib.hid (HXe.out x (by rw [hL.out, HG4.out, hx]; rfl)); clear hx
            go_wp2_with fail
            exact ⟨rfl, .inl ⟨x, HX.out, rfl, HT7.out.md⟩⟩
          obtain ⟨w7, hw7⟩ : ∃ w7, w7 = w6.alloc (.cells #[.int .i64 6] 3) := ⟨_, rfl⟩
          rw [← hw7] at HT7 ⊢
          clear hw7 HT6 HI6 HT3 d1
          cases b with
          | true =>
            have hlt7 := is_in hx (by omega)
            have HL2 := Lib.hid (show bodyGo E.S ag3 65 k2 [] = bodyGo E.S ag3 n k4 ((xs ++ [((⟨lk, ⟨lp, lts⟩, lo, ⟨ll1, ll2⟩, ⟨lr1, lr2⟩⟩ : Lm), Value.slice la lts.length lts.length)]).map Prod.fst) by rw [hL.out, HG4.out, hx, HME.out]; rfl)
            clear hx
            go_wp2_with fail
            go_roundg n
            case measure => omega
            case rel => exact ⟨k4, _, _, a3, c3, by simp; omega, by omega, hlt7, HT7, HL2⟩
          | false =>
            have HXF := Lib.hid (show ruleP E.S k = (markP E.S k4 7).bind fun k3 => .ok (⟨⟨p', ts⟩, ((xs ++ [((⟨lk, ⟨lp, lts⟩, lo, ⟨ll1, ll2⟩, ⟨lr1, lr2⟩⟩ : Lm), Value.slice la lts.length lts.length)]).map Prod.fst)⟩, k3, ag3) by rw [HME.out]; exact HXm.out _ (by rw [hL.out, HG4.out, hx]; rfl))
            have hl2 : (xs ++ [((⟨lk, ⟨lp, lts⟩, lo, ⟨ll1, ll2⟩, ⟨lr1, lr2⟩⟩ : Lm), Value.slice la lts.length lts.length)]).length < 2 ^ 30 := by simp; omega
            clear hx HME
            generalize (xs ++ [((⟨lk, ⟨lp, lts⟩, lo, ⟨ll1, ll2⟩, ⟨lr1, lr2⟩⟩ : Lm), Value.slice la lts.length lts.length)]) = xs2 at *
            have HMK := Lib.hid (mark_any E k4 ag3 7 _ HT7.out.st (by omega))
            go_wp2_with fail
            refine HMK.out.mono ?_
            rintro e w8 (⟨x, hx, rfl, hM⟩ | ⟨k3, hx, ⟨rfl, hS⟩, hM⟩)
            · have HX := Lib.hid (show ruleP E.S k = .error x by rw [HXF.out, hx]; rfl)
              have HM := Lib.hid (HT7.out.md.trans hM); clear hx hM
              go_wp2_with fail
              exact ⟨rfl, .inl ⟨x, HX.out, rfl, HM.out⟩⟩
            have HX := Lib.hid (show ruleP E.S k = .ok (⟨⟨p', ts⟩, xs2.map Prod.fst⟩, k3, ag3) by rw [HXF.out, hx]; rfl)
            have HT8 := Lib.hid (HT7.out.call hS hM)
            clear hx hS hM HMK HXF
            have HCL := Lib.hid (clipL_any a3 _ _ _ w8 HT8.out.own hl2)
            have c0 := cell_at (j := 0) HT8.out.b0 rfl
            have c1 := cell_at (j := 1) HT8.out.b0 rfl
            have c2 := cell_at (j := 2) HT8.out.b0 rfl
            have f0 : w8.frozen? ⟨w.heap.size, 0, none⟩ = false := frozen_at HT8.out.b0
            have f1 : w8.frozen? ⟨w.heap.size, 1, none⟩ = false := frozen_at HT8.out.b0
            have f2 : w8.frozen? ⟨w.heap.size, 2, none⟩ = false := frozen_at HT8.out.b0
            have d0 := cell_at (j := 0) HT8.out.b1 rfl
            have d1 := cell_at (j := 1) HT8.out.b1 rfl
            have d2 := cell_at (j := 2) HT8.out.b1 rfl
            have q2 : w8.frozen? ⟨g3, 2, none⟩ = false := frozen_at HT8.out.b1
            go_wp2_with fail
            refine HCL.out.mono ?_
            rintro e w' ⟨rfl, rfl⟩
            go_wp2_with fail
            obtain ⟨w9, hw9⟩ : ∃ w9, w9 = ((((w8.setCell ⟨g3, 2, none⟩ (.slice a3 xs2.length xs2.length)).setCell ⟨w.heap.size, 0, none⟩ (.string p')).setCell ⟨w.heap.size, 1, none⟩ (.slice av ts.length ts.length)).setCell ⟨w.heap.size, 2, none⟩ (.slice a3 xs2.length xs2.length)) := ⟨_, rfl⟩
            obtain ⟨b9, m9, s9, t9, l9, n9⟩ := RuI.fin H.out HT8.out hw9
            rw [← hw9]
            clear hw9
            have e0 := cell_at (j := 0) b9 rfl
            have e1 := cell_at (j := 1) b9 rfl
            have e2 := cell_at (j := 2) b9 rfl
            refine bodyPost_ret (v := .agg #[.string p', .slice av ts.length ts.length, .slice a3 xs2.length xs2.length]) (by simp [results, Tryz.results57, go_sem, e0, e1, e2]) rfl ?_
            exact .inr ⟨_, HX.out, ⟨_, _, _, _, rfl, t9, l9, n9, s9⟩, m9⟩
end Go.Proofs.YteecbbnpgmceiaaGreatDoor
/-
  The parser: programs.
-/
namespace Go.Proofs.YteecbbnpgmceiaaGreatDoor
open Go Go.RowKit Go.Mine
set_option linter.unusedVariables false
set_option maxHeartbeats 1000000
set_option maxRecDepth 100000

/-- a rule that was made anew -/
def RF (w : World) (lo : Nat) (x : Rm × Value × Value) (b : List Nat) : Prop :=
  ∃ h l, TsF w lo x.2.1 x.1.head.terms h ∧ LsF w lo x.2.2 x.1.body l ∧ b = h ++ l ∧ b.Nodup
def RsF (w : World) (lo : Nat) (v : Value) (rs : List Rm) (bs : List Nat) : Prop :=
  ∃ (a : Option Addr) (xs : List (Rm × Value × Value)) (bss : List (List Nat)), v = .slice a rs.length rs.length ∧ Clp w 46 3 a rs.length (rmsC xs) ∧ xs.map Prod.fst = rs ∧
    xs.length = bss.length ∧ (∀ (i : Nat) (x : Rm × Value × Value) (b : List Nat), xs[i]? = some x → bss[i]? = some b → RF w lo x b) ∧ bs = (blk a).toList ++ bss.flatten ∧ bs.Nodup ∧ ∀ b ∈ bs, lo ≤ b
section
variable {w w' : World} {lo : Nat} {x : Rm × Value × Value} {b : List Nat}
theorem LsF.nodup {v : Value} {ls : List Lm} {bs : List Nat} (h : LsF w lo v ls bs) : bs.Nodup := by
  obtain ⟨_, _, _, _, _, _, _, _, _, hn, _⟩ := h; exact hn
theorem LsF.ge {v : Value} {ls : List Lm} {bs : List Nat} (h : LsF w lo v ls bs) : ∀ b ∈ bs, lo ≤ b := by
  obtain ⟨_, _, _, _, _, _, _, _, _, _, h4⟩ := h; exact h4
theorem TsF.ge {v : Value} {ts : List Tm} {bs : List Nat} (h : TsF w lo v ts bs) : ∀ b ∈ bs, lo ≤ b := by
  obtain ⟨_, _, _, _, h4⟩ := h; exact h4
theorem RF.bd (h : RF w lo x b) : ∀ y ∈ b, lo ≤ y ∧ y < w.heap.size := by
  obtain ⟨hb, lb, h1, h2, rfl, _⟩ := h
  intro y hy
  rcases List.mem_append.1 hy with hy | hy
  · exact ⟨h1.ge y hy, h1.lt y hy⟩
  · exact ⟨h2.ge y hy, h2.lt y hy⟩
theorem RF.mod {T : Nat → Prop} (h : RF w lo x b) (m : Mod T w w') (hs : ∀ y ∈ b, ¬ T y) : RF w' lo x b := by
  obtain ⟨hb, lb, h1, h2, rfl, hn⟩ := h
  exact ⟨hb, lb, h1.mod m (fun y hy => hs y (by simp [hy])), h2.mod m (fun y hy => hs y (by simp [hy])), rfl, hn⟩
theorem RF.mono {lo' : Nat} (h : RF w lo x b) (hl : lo' ≤ lo) : RF w lo' x b := by
  obtain ⟨hb, lb, h1, h2, rfl, hn⟩ := h
  exact ⟨hb, lb, h1.mono hl, h2.mono hl, rfl, hn⟩
theorem RsF.lt {v : Value} {rs : List Rm} {bs : List Nat} (h : RsF w lo v rs bs) : ∀ b ∈ bs, b < w.heap.size := by
  obtain ⟨a, xs, bss, _, hc, hx, hl, ht, rfl, _, _⟩ := h
  intro b hb
  rcases List.mem_append.1 hb with hb | hb
  · exact hc.lt b (by simpa using hb)
  · obtain ⟨l, hl1, hl2⟩ := List.mem_flatten.1 hb
    obtain ⟨i, hi, rfl⟩ := List.getElem_of_mem hl1
    have hi' : i < xs.length := by omega
    exact ((ht i xs[i] bss[i] (List.getElem?_eq_getElem hi') (List.getElem?_eq_getElem hi)).bd b hl2).2
theorem RsF.mod {T : Nat → Prop} {v : Value} {rs : List Rm} {bs : List Nat} (h : RsF w lo v rs bs) (m : Mod T w w') (hs : ∀ b ∈ bs, ¬ T b) : RsF w' lo v rs bs := by
  obtain ⟨a, xs, bss, e, hc, hx, hl, ht, rfl, hn, h4⟩ := h
  refine ⟨a, xs, bss, e, hc.mod m (fun b hb => hs b (by simp [hb])), hx, hl, fun i x b h1 h2 => (ht i x b h1 h2).mod m fun y hy => hs y ?_, rfl, hn, h4⟩
  exact List.mem_append.2 (.inr (mem_flat h2 hy))
theorem RsF.at_ {v : Value} {rs : List Rm} {bs : List Nat} (h : RsF w lo v rs bs) : RsAt w v rs := by
  obtain ⟨a, xs, bss, e, hc, hx, hl, ht, _, _, _⟩ := h
  refine ⟨a, _, xs, e, hx, hc.rd, fun x hx => ?_⟩
  obtain ⟨i, hi, rfl⟩ := List.getElem_of_mem hx
  have hi' : i < bss.length := by omega
  obtain ⟨_, _, h1, h2, _, _⟩ := ht i _ bss[i] (List.getElem?_eq_getElem hi) (List.getElem?_eq_getElem hi')
  exact ⟨h1.at_, h2.at_⟩
end
/-- a program is being read -/
structure PrI (E : Env) (w0 W : World) (k : Nat) (ag : Bool) (xs : List (Rm × Value × Value)) (bss : List (List Nat)) (a : Option Addr) (c : Nat) : Prop where
  base : ∃ k0 ag0, PSt w0 E k0 ag0
  st : PSt W E k ag
  md : Mod E.Ch w0 W
  b0 : W.heap[w0.heap.size]? = some (.cells #[.slice none 0 0] 24 (0, 0))
  own : Mine.Own W 46 3 a xs.length c (rmsC xs)
  len : xs.length = bss.length
  tf : ∀ (i : Nat) (x : Rm × Value × Value) (b : List Nat), xs[i]? = some x → bss[i]? = some b → RF W (w0.heap.size + 1) x b
  nd : bss.flatten.Nodup
  na : ∀ b, blk a = some b → b ∉ bss.flatten ∧ w0.heap.size < b
section
variable {E : Env} {w0 W W' : World} {k k' c c' : Nat} {ag ag' : Bool} {xs : List (Rm × Value × Value)} {bss : List (List Nat)} {a a' : Option Addr}
theorem PrI.mem (h : PrI E w0 W k ag xs bss a c) {b : Nat} (hb : b ∈ bss.flatten) : w0.heap.size + 1 ≤ b ∧ b < W.heap.size := by
  obtain ⟨l, hl1, hl2⟩ := List.mem_flatten.1 hb
  obtain ⟨i, hi, rfl⟩ := List.getElem_of_mem hl1
  have hi' : i < xs.length := by rw [h.len]; exact hi
  exact (h.tf i xs[i] bss[i] (List.getElem?_eq_getElem hi') (List.getElem?_eq_getElem hi)).bd b hl2
theorem PrI.call (h : PrI E w0 W k ag xs bss a c) (hs : PSt W' E k' ag') (m : Mod E.Ch W W') : PrI E w0 W' k' ag' xs bss a c := by
  obtain ⟨k0, ag0, h0⟩ := h.base
  exact ⟨h.base, hs, h.md.trans m, m.at h.b0 (h0.nch (Nat.le_refl _)), h.own.mod m (fun b hb => h0.nch (by have := (h.na b hb).2; omega)), h.len,
    fun i x b hx hb => (h.tf i x b hx hb).mod m (fun y hy => h0.nch (by have := (h.mem (mem_flat hb hy)).1; omega)), h.nd, h.na⟩
theorem PrI.alloc (h : PrI E w0 W k ag xs bss a c) (o : Obj) : PrI E w0 (W.alloc o) k ag xs bss a c := h.call (h.st.alloc o) ((Mod.refl _ W).alloc o)
theorem PrI.lt (h : PrI E w0 W k ag xs bss a c) : w0.heap.size < W.heap.size := (Array.getElem?_eq_some_iff.1 h.b0).1
/-- one rule more -/
theorem PrI.step {W0 : World} {k0 : Nat} {ag0 : Bool} (h0 : PrI E w0 W0 k0 ag0 xs bss a c) (h : PrI E w0 W k ag xs bss a c) {r : Rm} {hv v : Value} {bs : List Nat} (ht : RF W W0.heap.size (r, hv, v) bs)
    {W1 : World} {us : List Value} (hu : us = rmC (r, hv, v)) (ho : Mine.Own W1 46 3 a' (xs.length + 1) c' (rmsC xs ++ us)) (hg : ∃ W2, Mod (fun _ => False) W W2 ∧ Grow W2 a W1 a') :
    PrI E w0 W1 k ag (xs ++ [(r, hv, v)]) (bss ++ [bs]) a' c' := by
  obtain ⟨kb, agb, hb0⟩ := h.base
  obtain ⟨W2, m2, hg⟩ := hg
  have hlt := h.lt
  have hlt0 := h0.lt
  have hbs := ht.bd
  have hold : ∀ b ∈ bss.flatten, b < W0.heap.size := fun b hb => (h0.mem hb).2
  have hna0 : ∀ b, blk a = some b → b < W0.heap.size := h0.own.lt
  have mT : Mod (fun b => blk a = some b) W W1 := (m2.mono fun _ _ f => f.elim).trans (hg.mod.mono fun _ _ h => h)
  have mF : Mod (Far w0) W W1 := mT.mono fun b _ hb => by have := (h.na b hb).2; unfold Far; omega
  have hpos : ∀ b, blk a' = some b → (blk a = some b) ∨ W.heap.size ≤ b := by
    intro b hb
    rcases hg.pos with e | ⟨b', e, hb'⟩
    · rw [e] at hb; exact .inl hb
    · rw [e] at hb; cases hb; have := m2.size; exact .inr (by omega)
  have hna' : ∀ b, blk a' = some b → b ∉ (bss ++ [bs]).flatten ∧ w0.heap.size < b := by
    intro b hb
    rcases hpos b hb with hb' | hb'
    · obtain ⟨q1, q2⟩ := h.na b hb'
      refine ⟨?_, q2⟩
      rw [List.flatten_append]
      intro hh
      rcases List.mem_append.1 hh with hh | hh
      · exact q1 hh
      · have := (hbs b (by simpa using hh)).1; have := hna0 b hb'; omega
    · refine ⟨?_, by omega⟩
      rw [List.flatten_append]
      intro hh
      rcases List.mem_append.1 hh with hh | hh
      · have := (h.mem hh).2; omega
      · have := (hbs b (by simpa using hh)).2; omega
  have hlen : (xs ++ [(r, hv, v)]).length = xs.length + 1 := by simp
  have hold2 : ∀ b ∈ bss.flatten, ¬ (blk a = some b) := fun b hb hh => (h.na b hh).1 hb
  have hnew2 : ∀ b ∈ bs, ¬ (blk a = some b) := fun b hb hh => by
    have := hna0 b hh; have := (hbs b hb).1; omega
  refine ⟨h.base, hb0.far h.st mF, Mod.far h.md mF, mT.at h.b0 (fun hh => by have := (h.na _ hh).2; omega), ?_, ?_, ?_, ?_, hna'⟩
  · rw [hlen, rmsC_append]
    subst hu
    simpa [rmsC] using ho
  · simp [h.len]
  · intro i x b hx hb
    by_cases hi : i < xs.length
    · rw [List.getElem?_append_left hi] at hx
      rw [List.getElem?_append_left (by rw [← h.len]; exact hi)] at hb
      exact (h.tf i x b hx hb).mod mT (fun y hy => hold2 y (mem_flat hb hy))
    · have hi2 : i = xs.length := by
        have := (List.getElem?_eq_some_iff.1 hx).1
        simp at this; omega
      subst hi2
      rw [List.getElem?_append_right (Nat.le_refl _)] at hx
      rw [h.len, List.getElem?_append_right (Nat.le_refl _)] at hb
      simp at hx hb
      subst hx hb
      exact (ht.mono (by omega)).mod mT hnew2
  · rw [List.flatten_append]
    obtain ⟨_, _, _, _, _, hn⟩ := ht
    refine List.nodup_append.2 ⟨h.nd, by simpa using hn, ?_⟩
    intro x hx y hy e
    subst e
    have := hold x hx; have := (hbs x (by simpa using hy)).1; omega
end
def ResPm (E : Env) (lo : Nat) (r : List Rm × Nat) (e : Ending) (w' : World) : Prop := ∃ v bs ag, e = .returned (.agg #[v]) ∧ RsF w' lo v r.1 bs ∧ PSt w' E r.2 ag
theorem program_any (E : Env) (agg : Bool) (w : World) (h : PSt w E 0 agg) :
    Calls Tryz.prog 53 #[.pointer (some ⟨E.bp, 0, none⟩)] w (PP E w (progP E.S) (ResPm E w.heap.size)) := by
  have h0 := h.alloc (.cells #[.slice none 0 0] 24)
  have hI : PrI E w _ 0 agg [] [] none 0 := ⟨⟨_, _, h⟩, h0, (Mod.refl _ w).alloc _, heap_alloc_new w _, Mine.Own.nil _ _ _, rfl, (fun i x b hx => by simp at hx), by simp, by simp⟩
  have HT := Lib.hid hI
  have H := Lib.hid h
  clear h h0 hI
  go_enter Tryz.func53, Tryz.ntmps53
  go_wp2_with fail
  go_loopg [3] 1025 (fun n lv wr => ∃ (k : Nat) (ag : Bool) (xs : List (Rm × Value × Value)) (bss : List (List Nat)) (a : Option Addr) (c : Nat), lv = .slice a xs.length c ∧ n + xs.length = 1025 ∧ 0 < n ∧ Hid (PrI E w wr k ag xs bss a c) ∧ Hid (progP E.S = progGo E.S n k (xs.map Prod.fst)))
  case atStart => exact ⟨0, agg, [], [], none, 0, rfl, rfl, by omega, HT, Lib.hid rfl⟩
  case round =>
    obtain ⟨k, ag, xs, bss, a, c, rfl, hn, hpos, hI, hL⟩ := hrel
    clear HT
    obtain ⟨n, rfl⟩ : ∃ n, gk = n + 1 := ⟨gk - 1, by omega⟩
    have HI0 := Lib.hid (is1 E k ag 0 wr hI.out.st wr.heap.size 0)
    have HT1 := Lib.hid (hI.out.alloc (.cells #[.int .i64 0] 3))
    have HG := Lib.hid (hL.out.trans (progGo.eq_2 E.S k (xs.map Prod.fst) n))
    clear hL
    go_wp2_with fail
    refine HI0.out.mono ?_
    rintro e w' ⟨(⟨x, hx, rfl⟩ | ⟨b, hx, rfl⟩), rfl⟩
    · have HX := Lib.hid (show progP E.S = .error x by rw [HG.out, hx]; rfl); clear hx
      go_wp2_with fail
      exact ⟨rfl, .inl ⟨x, HX.out, rfl, HT1.out.md⟩⟩
    obtain ⟨w1, hw1⟩ : ∃ w1, w1 = wr.alloc (.cells #[.int .i64 0] 3) := ⟨_, rfl⟩
    rw [← hw1] at HT1 ⊢
    clear hw1 HI0 hI
    cases b with
    | true =>
      have HX := Lib.hid (show progP E.S = .ok (xs.map Prod.fst, k) by rw [HG.out, hx]; rfl)
      have HCL := Lib.hid (clipR_any a xs.length c _ w1 HT1.out.own (by omega))
      have c0 := cell_at (j := 0) HT1.out.b0 rfl
      have f0 : w1.frozen? ⟨w.heap.size, 0, none⟩ = false := frozen_at HT1.out.b0
      clear hx HG
      go_wp2_with fail
      refine HCL.out.mono ?_
      rintro e w' ⟨rfl, rfl⟩
      go_wp2_with fail
      have m9 : Mod (fun b => b = w.heap.size) w1 (w1.setCell ⟨w.heap.size, 0, none⟩ (.slice a xs.length xs.length)) := (Mod.refl (fun b => b = w.heap.size) w1).setCell (p := ⟨w.heap.size, 0, none⟩) (fun _ => rfl) _
      have b9 := heap_setCell_at (j := 0) (.slice a xs.length xs.length) HT1.out.b0
      have mF : Mod (Far w) w1 (w1.setCell ⟨w.heap.size, 0, none⟩ (.slice a xs.length xs.length)) := m9.mono fun _ _ e => Nat.le_of_eq e.symm
      obtain ⟨w9, hw9⟩ : ∃ w9, w9 = w1.setCell ⟨w.heap.size, 0, none⟩ (.slice a xs.length xs.length) := ⟨_, rfl⟩
      rw [← hw9] at m9 b9 mF ⊢
      clear hw9 c0 f0
      have e0 := cell_at (j := 0) b9 rfl
      refine bodyPost_ret (v := .agg #[.slice a xs.length xs.length]) (by simp [results, Tryz.results53, go_sem, e0]) rfl ?_
      have hna := HT1.out.na
      have hmem : ∀ {b : Nat}, b ∈ bss.flatten → w.heap.size + 1 ≤ b ∧ b < w1.heap.size := fun hb => HT1.out.mem hb
      have hb : ∀ b ∈ (blk a).toList ++ bss.flatten, w.heap.size + 1 ≤ b := by
        intro b hb
        rcases List.mem_append.1 hb with hb | hb
        · have := (hna b (by simpa using hb)).2; omega
        · exact (hmem hb).1
      have hRs : RsF w9 w.heap.size (.slice a xs.length xs.length) (xs.map Prod.fst) ((blk a).toList ++ bss.flatten) := by
        refine ⟨a, xs, bss, by simp, ?_, rfl, HT1.out.len, fun i x b hx hb => ((HT1.out.tf i x b hx hb).mono (by omega)).mod m9 (fun y hy e => by have := (hmem (mem_flat hb hy)).1; omega), rfl, ?_, fun b hb' => by have := hb b hb'; omega⟩
        · have := (Clp.of HT1.out.own).mod m9 (fun b hb => by have := (hna b hb).2; omega)
          simpa using this
        · cases hba : blk a with
          | none => simpa using HT1.out.nd
          | some b => simpa using ⟨by simpa using (hna b hba).1, HT1.out.nd⟩
      exact .inr ⟨_, HX.out, ⟨_, _, ag, rfl, hRs, H.out.far HT1.out.st mF⟩, Mod.far HT1.out.md mF⟩
    | false =>
      have HG1 := Lib.hid (show progP E.S = (wantP E.S k [1]).bind fun _ => if (xs.map Prod.fst).length = 1024 then .error (81, (E.S.tok k).at_) else (ruleP E.S k).bind fun r => progGo E.S n r.2.1 (xs.map Prod.fst ++ [r.1]) by rw [HG.out, hx]; rfl)
      have HW := Lib.hid (want1 E k ag 1 w1 HT1.out.st w1.heap.size 1)
      have HT2 := Lib.hid (HT1.out.alloc (.cells #[.int .i64 1] 3))
      clear hx HG
      go_wp2_with fail
      refine HW.out.mono ?_
      rintro e w' ⟨(⟨x, hx, rfl⟩ | ⟨hx, rfl⟩), rfl⟩
      · have HX := Lib.hid (show progP E.S = .error x by rw [HG1.out, hx]; rfl); clear hx
        go_wp2_with fail
        exact ⟨rfl, .inl ⟨x, HX.out, rfl, HT2.out.md⟩⟩
      have HG2 := Lib.hid (show progP E.S = if xs.length = 1024 then .error (81, (E.S.tok k).at_) else (ruleP E.S k).bind fun r => progGo E.S n r.2.1 (xs.map Prod.fst ++ [r.1]) by rw [HG1.out, hx, bind_ok', List.length_map])
      obtain ⟨w2, hw2⟩ : ∃ w2, w2 = w1.alloc (.cells #[.int .i64 1] 3) := ⟨_, rfl⟩
      rw [← hw2] at HT2 ⊢
      clear hw2 HW hx HG1 HT1
      by_cases h64 : xs.length = 1024
      · have HX := Lib.hid (HG2.out.trans (if_pos h64))
        have HGV := Lib.hid (give_any E k ag 81 w2 HT2.out.st)
        rw [h64]
        go_wp2_with fail
        refine HGV.out.mono ?_
        rintro e w' ⟨rfl, rfl⟩
        go_wp2_with fail
        exact ⟨rfl, .inl ⟨_, HX.out, rfl, HT2.out.md⟩⟩
      · have h64b : xs.length < 1024 := by omega
        have HG3 := Lib.hid (HG2.out.trans (if_neg h64))
        have HR := Lib.hid (rule_any E k ag w2 HT2.out.st)
        clear HG2 h64
        go_wp2_with fail
        refine HR.out.mono ?_
        rintro e w4 (⟨x, hx, rfl, hM⟩ | ⟨⟨⟨⟨p', ts⟩, ls⟩, k4, ag4⟩, hx, ⟨hv, v, hbs, bs, rfl, hTs, hLs, hnd, hS⟩, hM⟩)
        · have HX := Lib.hid (show progP E.S = .error x by rw [HG3.out, hx]; rfl)
          have HM := Lib.hid (HT2.out.md.trans hM); clear hx hM
          go_wp2_with fail
          exact ⟨rfl, .inl ⟨x, HX.out, rfl, HM.out⟩⟩
        simp only at hTs hLs hS ⊢
        unfold rmV
        simp only
        have HL2 := Lib.hid (show progP E.S = progGo E.S n k4 ((xs ++ [((⟨⟨p', ts⟩, ls⟩ : Rm), hv, v)]).map Prod.fst) by rw [HG3.out, hx, bind_ok']; simp)
        have HT4 := Lib.hid (HT2.out.call hS hM)
        have hRF : RF w4 w2.heap.size ((⟨⟨p', ts⟩, ls⟩ : Rm), hv, v) (hbs ++ bs) := ⟨hbs, bs, hTs, hLs, rfl, hnd⟩
        have HRF := Lib.hid hRF
        obtain ⟨ha, hv', _⟩ := id hTs
        obtain ⟨la, _, _, hl', _⟩ := id hLs
        have m5 : Mod (fun _ => False) w4 (w4.alloc (.cells #[.string p', hv, v] 46)) := (Mod.refl _ w4).alloc _
        have HO5 := Lib.hid (HT4.out.own.mod m5 (fun _ _ => id))
        have HM5 := Lib.hid m5
        subst hv' hl'
        clear hx hM hS hTs hLs hRF m5 HR
        go_wp2_with (at_builtin; refine wpL_appendN (us := [.string p', .slice ha ts.length ts.length, .slice la ls.length ls.length]) rfl (.tmp 16) (.tmp 19) 22 rfl tiR rfl HT4.out.own rfl rfl rfl (by omega) (by unfold maxLen; omega) ?_; intro a3 c3 w5 hO3 hG3 _; have HO3 := Lib.hid hO3; have HG3' := Lib.hid hG3; clear hO3 hG3)
        have hT6 := PrI.step (r := ⟨⟨p', ts⟩, ls⟩) (hv := .slice ha ts.length ts.length) (v := .slice la ls.length ls.length) HT2.out HT4.out HRF.out rfl HO3.out ⟨_, Mod.refl _ _, HG3'.out⟩
        have HT6 := Lib.hid hT6
        go_roundg n
        case measure => omega
        case rel => exact ⟨k4, ag4, _, _, a3, c3, by simp, by simp; omega, by omega, HT6, HL2⟩
end Go.Proofs.YteecbbnpgmceiaaGreatDoor
/-
  syntax.read: the closure that catches what is thrown.
-/
namespace Go.Proofs.YteecbbnpgmceiaaGreatDoor
open Go Go.RowKit Go.Mine
set_option linter.unusedVariables false
set_option maxHeartbeats 1000000
set_option maxRecDepth 100000

theorem catchP_idle (n : Nat) (p q r : Addr) (w : World) :
    CallsDIn Fence.wide n Tryz.prog 102 #[.pointer (some p), .pointer (some q), .pointer (some r)] .returning w fun e u' w' => (∃ v, e = .returned v) ∧ u' = .returning ∧ w' = w := by
  refine callsDIn_of_wpSIn Tryz.func102 rfl trivial fun c₀ cs hu => ?_
  apply wpSIn_seq
  apply wpSIn_region
  simp [wpOpsSIn, go_sem, recoverD, hu, Tryz.ntmps102, Exit.thenS, Fence.wide]
  refine wpSIn_of_wpIn rfl ((wpIn_wide (n := n)).2 ?_)
  simp only [Array.replicate_succ, Array.replicate_zero, List.push_toArray, List.append_toArray, List.nil_append, List.cons_append, List.setIfInBounds_toArray, List.set_cons_succ, List.set_cons_zero]
  go_wp2
  cases c₀
  simp_all [bodyPostS, results, Tryz.results102]
theorem catchP_wrong (n : Nat) (p q r : Nat) (u0 y1 y2 : Value) (tp tq tr : TypeId) (x : Nat × Nat) (w : World) (hp : w.heap[p]? = some (.cells #[u0] tp (0, 0))) (hq : w.heap[q]? = some (.cells #[y1] tq (0, 0))) (hr : w.heap[r]? = some (.cells #[y2] tr (0, 0))) (hne : p ≠ q ∧ p ≠ r ∧ q ≠ r) :
    CallsDIn Fence.wide n Tryz.prog 102 #[.pointer (some ⟨p, 0, none⟩), .pointer (some ⟨q, 0, none⟩), .pointer (some ⟨r, 0, none⟩)] (.panicking (wrongE x)) w fun e u' w' => (∃ v, e = .returned v) ∧ u' = .panicking [{ v := .iface 189 (.agg #[.int .i64 x.1, .int .i64 x.2]), recovered := true }] ∧
      Mod (fun b => b = p ∨ b = q ∨ b = r) w w' ∧ w'.heap[p]? = some (.cells #[.slice none 0 0] tp (0, 0)) ∧ w'.heap[q]? = some (.cells #[.int .i64 x.2] tq (0, 0)) ∧ w'.heap[r]? = some (.cells #[.int .i64 x.1] tr (0, 0)) := by
  have hta : ∀ w, (Instr.typeAssert (.iface 189 (.agg #[.int .i64 x.1, .int .i64 x.2])) 20 189 true).run Tryz.prog w = .ok (.tuple #[.agg #[.int .i64 x.1, .int .i64 x.2], .bool true]) w := fun _ => by kernel_rfl
  have hlp := (Array.getElem?_eq_some_iff.1 hp).1
  have hlq := (Array.getElem?_eq_some_iff.1 hq).1
  have hlr := (Array.getElem?_eq_some_iff.1 hr).1
  have m0 : Mod (fun _ => False) w ((w.alloc (.cells #[.int .i64 x.1, .int .i64 x.2] 189)).alloc (.cells #[.slice none 0 0] 24)) := ((Mod.refl _ w).alloc _).alloc _
  have gp := m0.at hp id
  have gq := m0.at hq id
  have gr := m0.at hr id
  have gw : ((w.alloc (.cells #[.int .i64 x.1, .int .i64 x.2] 189)).alloc (.cells #[.slice none 0 0] 24)).heap[w.heap.size]? = some (.cells #[.int .i64 x.1, .int .i64 x.2] 189 (0, 0)) := ((Mod.refl (fun _ => False) _).alloc _).at (heap_alloc_new w _) id
  have gz : ((w.alloc (.cells #[.int .i64 x.1, .int .i64 x.2] 189)).alloc (.cells #[.slice none 0 0] 24)).heap[w.heap.size + 1]? = some (.cells #[.slice none 0 0] 24 (0, 0)) := by
    have := heap_alloc_new (w.alloc (.cells #[.int .i64 x.1, .int .i64 x.2] 189)) (.cells #[.slice none 0 0] 24)
    simpa using this
  have HH := Lib.hid (And.intro m0 (And.intro gp (And.intro gq (And.intro gr (And.intro gw gz)))))
  have HNE := Lib.hid hne
  clear hp hq hr m0 gp gq gr gw gz
  unfold wrongE
  refine callsDIn_of_wpSIn Tryz.func102 rfl trivial fun c₀ cs hu => ?_
  apply wpSIn_seq
  apply wpSIn_region
  simp [wpOpsSIn, go_sem, recoverD, hu, Tryz.ntmps102, Exit.thenS, Fence.wide]
  refine wpSIn_of_wpIn rfl ((wpIn_wide (n := n)).2 ?_)
  simp only [Array.replicate_succ, Array.replicate_zero, List.push_toArray, List.append_toArray, List.nil_append, List.cons_append, List.setIfInBounds_toArray, List.set_cons_succ, List.set_cons_zero]
  go_wp2_with fail
  obtain ⟨W0, hW0⟩ : ∃ W0, W0 = ((w.alloc (.cells #[.int .i64 x.1, .int .i64 x.2] 189)).alloc (.cells #[.slice none 0 0] 24)) := ⟨_, rfl⟩
  rw [← hW0] at HH ⊢
  clear hW0 hta
  obtain ⟨m0, gp, gq, gr, gw, gz⟩ := HH.out
  have d0 := cell_at (j := 0) gw rfl
  have d1 := cell_at (j := 1) gw rfl
  have z0 := cell_at (j := 0) gz rfl
  have fp0 : W0.frozen? ⟨p, 0, none⟩ = false := frozen_at gp
  have cp0 := cell_at (j := 0) gp rfl
  obtain ⟨W1, hW1⟩ : ∃ W1, W1 = (W0).setCell ⟨p, 0, none⟩ (.slice none 0 0) := ⟨_, rfl⟩
  have gp1 : W1.heap[p]? = some (.cells #[.slice none 0 0] tp (0, 0)) := by rw [hW1]; exact heap_setCell_at (j := 0) (.slice none 0 0) (gp)
  have m1 : Mod (fun b => b = p) W0 W1 := by rw [hW1]; exact (Mod.refl (fun b => b = p) W0).setCell (p := ⟨p, 0, none⟩) (fun _ => rfl) _
  have gq1 := m1.at gq (by omega)
  have gr1 := m1.at gr (by omega)
  have gw1 := m1.at gw (by omega)
  have gz1 := m1.at gz (by omega)
  have HA := Lib.hid (And.intro hW1 (And.intro gp1 (And.intro m1 (And.intro gq1 (And.intro gr1 (And.intro gw1 gz1))))))
  clear hW1 gp1 m1 gq1 gr1 gw1 gz1 gp gq gr gw gz HH
  have HM0 := Lib.hid m0
  clear m0
  refine wp_region_ord (fun w' => w'.cell? ⟨w.heap.size, 1, none⟩ = some (.int .i64 x.2) ∧ w'.cell? ⟨w.heap.size, 0, none⟩ = some (.int .i64 x.1) ∧ w'.cell? ⟨w.heap.size + 1, 0, none⟩ = some (.slice none 0 0)) [(1, 0), (0, 1), (1, 2), (0, 3), (1, 4), (2, 5), (2, 6), (3, 7)] (by kernel_rfl) (by kernel_rfl) ?_
  go_wp2_with (first
    | (refine ord_pure rfl rfl rfl (fun K hK => ?_); go_big_quiet_op; refine hK _ ?_; clear hK K)
                        | (refine ord_skip rfl rfl ?_; simp only [Act.put, List.setIfInBounds_toArray, List.set_cons_zero, List.set_cons_succ])
                        | (refine ord_held rfl rfl rfl (⟨by simpa using d1, by simpa using d0, by simpa using z0⟩) (fun K hK => ?_); apply Exists.intro; refine ⟨fun w' hs => ?_, hK _ ?_⟩; (revert hs; dsimp only; (try simp only [and_imp]); intros; go_simp; rfl); clear hK K)
                        | (refine ord_keep rfl rfl (⟨by simpa using d1, by simpa using d0, by simpa using z0⟩) (fun K hK => ?_))
                        | (refine ord_drop rfl rfl (fun K hK => ?_))
                        | (refine ord_nil ?_))
  obtain ⟨hW1, gp1, m1, gq1, gr1, gw1, gz1⟩ := HA.out
  rw [← hW1]
  clear d0 d1 z0 fp0 cp0 hW1 HA
  have d0 := cell_at (j := 0) gw1 rfl
  have d1 := cell_at (j := 1) gw1 rfl
  have z0 := cell_at (j := 0) gz1 rfl
  refine hK _ _ ⟨by simpa using d1, by simpa using d0, by simpa using z0⟩ ?_
  clear hK K
  have fq : W1.frozen? ⟨q, 0, none⟩ = false := frozen_at gq1
  have cq := cell_at (j := 0) gq1 rfl
  obtain ⟨W2, hW2⟩ : ∃ W2, W2 = W1.setCell ⟨q, 0, none⟩ (.int .i64 x.2) := ⟨_, rfl⟩
  have gq2 : W2.heap[q]? = some (.cells #[.int .i64 x.2] tq (0, 0)) := by rw [hW2]; exact heap_setCell_at (j := 0) (.int .i64 x.2) gq1
  have m2 : Mod (fun b => b = q) W1 W2 := by rw [hW2]; exact (Mod.refl (fun b => b = q) W1).setCell (p := ⟨q, 0, none⟩) (fun _ => rfl) _
  have gp2 := m2.at gp1 (by omega)
  have gr2 := m2.at gr1 (by omega)
  have gw2 := m2.at gw1 (by omega)
  have gz2 := m2.at gz1 (by omega)
  have HA := Lib.hid (And.intro hW2 (And.intro gp2 (And.intro m2 (And.intro gq2 (And.intro gr2 (And.intro gw2 gz2))))))
  have HM1 := Lib.hid m1
  clear hW2 gp2 m2 gq2 gr2 gw2 gz2 gp1 gq1 gr1 gw1 gz1 m1
  go_wp2_with (first
    | (refine ord_pure rfl rfl rfl (fun K hK => ?_); go_big_quiet_op; refine hK _ ?_; clear hK K)
                        | (refine ord_skip rfl rfl ?_; simp only [Act.put, List.setIfInBounds_toArray, List.set_cons_zero, List.set_cons_succ])
                        | (refine ord_held rfl rfl rfl (⟨by simpa using d1, by simpa using d0, by simpa using z0⟩) (fun K hK => ?_); apply Exists.intro; refine ⟨fun w' hs => ?_, hK _ ?_⟩; (revert hs; dsimp only; (try simp only [and_imp]); intros; go_simp; rfl); clear hK K)
                        | (refine ord_keep rfl rfl (⟨by simpa using d1, by simpa using d0, by simpa using z0⟩) (fun K hK => ?_))
                        | (refine ord_drop rfl rfl (fun K hK => ?_))
                        | (refine ord_nil ?_))
  obtain ⟨hW2, gp2, m2, gq2, gr2, gw2, gz2⟩ := HA.out
  rw [← hW2]
  clear d0 d1 z0 fq cq hW2 HA
  have d0 := cell_at (j := 0) gw2 rfl
  have d1 := cell_at (j := 1) gw2 rfl
  have z0 := cell_at (j := 0) gz2 rfl
  refine hK _ _ ⟨by simpa using d1, by simpa using d0, by simpa using z0⟩ ?_
  clear hK K
  have fr : W2.frozen? ⟨r, 0, none⟩ = false := frozen_at gr2
  have cr := cell_at (j := 0) gr2 rfl
  have hM := Lib.hid (((HM0.out.mono (T := fun b => b = p ∨ b = q ∨ b = r) (fun _ _ f => f.elim)).trans (HM1.out.mono fun _ _ e => .inl e)).trans ((m2.mono fun _ _ e => .inr (.inl e)).setCell (p := ⟨r, 0, none⟩) (fun _ => .inr (.inr rfl)) (.int .i64 x.1)))
  have m3 : Mod (fun b => b = r) W2 (W2.setCell ⟨r, 0, none⟩ (.int .i64 x.1)) := (Mod.refl (fun b => b = r) W2).setCell (p := ⟨r, 0, none⟩) (fun _ => rfl) _
  have HF := Lib.hid (And.intro (m3.at gp2 (by omega)) (And.intro (m3.at gq2 (by omega)) (heap_setCell_at (j := 0) (.int .i64 x.1) gr2)))
  clear gp2 m2 gq2 gr2 gw2 gz2 m3
  go_wp2_with (first
    | (refine ord_pure rfl rfl rfl (fun K hK => ?_); go_big_quiet_op; refine hK _ ?_; clear hK K)
                        | (refine ord_skip rfl rfl ?_; simp only [Act.put, List.setIfInBounds_toArray, List.set_cons_zero, List.set_cons_succ])
                        | (refine ord_held rfl rfl rfl (⟨by simpa using d1, by simpa using d0, by simpa using z0⟩) (fun K hK => ?_); apply Exists.intro; refine ⟨fun w' hs => ?_, hK _ ?_⟩; (revert hs; dsimp only; (try simp only [and_imp]); intros; go_simp; rfl); clear hK K)
                        | (refine ord_keep rfl rfl (⟨by simpa using d1, by simpa using d0, by simpa using z0⟩) (fun K hK => ?_))
                        | (refine ord_drop rfl rfl (fun K hK => ?_))
                        | (refine ord_nil ?_))
  generalize W2.setCell ⟨r, 0, none⟩ (.int .i64 x.1) = W3 at *
  clear d0 d1 z0 fr cr
  go_wp2_with fail
  simp [bodyPostS, results, Tryz.results102]
  exact ⟨hM.out.drew, HF.out.1, HF.out.2.1, HF.out.2.2⟩
theorem catchR_idle (n : Nat) (p q r : Addr) (w : World) :
    CallsDIn Fence.wide n Tryz.prog 111 #[.pointer (some p), .pointer (some q), .pointer (some r)] .returning w fun e u' w' => (∃ v, e = .returned v) ∧ u' = .returning ∧ w' = w := by
  refine callsDIn_of_wpSIn Tryz.func111 rfl trivial fun c₀ cs hu => ?_
  apply wpSIn_seq
  apply wpSIn_region
  simp [wpOpsSIn, go_sem, recoverD, hu, Tryz.ntmps111, Exit.thenS, Fence.wide]
  refine wpSIn_of_wpIn rfl ((wpIn_wide (n := n)).2 ?_)
  simp only [Array.replicate_succ, Array.replicate_zero, List.push_toArray, List.append_toArray, List.nil_append, List.cons_append, List.setIfInBounds_toArray, List.set_cons_succ, List.set_cons_zero]
  go_wp2
  cases c₀
  simp_all [bodyPostS, results, Tryz.results111]
theorem catchR_wrong (n : Nat) (p q r : Nat) (u0 u1 u2 y1 y2 : Value) (tp tq tr : TypeId) (x : Nat × Nat) (w : World) (hp : w.heap[p]? = some (.cells #[u0, u1, u2] tp (0, 0))) (hq : w.heap[q]? = some (.cells #[y1] tq (0, 0))) (hr : w.heap[r]? = some (.cells #[y2] tr (0, 0))) (hne : p ≠ q ∧ p ≠ r ∧ q ≠ r) :
    CallsDIn Fence.wide n Tryz.prog 111 #[.pointer (some ⟨p, 0, none⟩), .pointer (some ⟨q, 0, none⟩), .pointer (some ⟨r, 0, none⟩)] (.panicking (wrongE x)) w fun e u' w' => (∃ v, e = .returned v) ∧ u' = .panicking [{ v := .iface 189 (.agg #[.int .i64 x.1, .int .i64 x.2]), recovered := true }] ∧
      Mod (fun b => b = p ∨ b = q ∨ b = r) w w' ∧ w'.heap[p]? = some (.cells #[.string ⟨#[]⟩, .slice none 0 0, .slice none 0 0] tp (0, 0)) ∧ w'.heap[q]? = some (.cells #[.int .i64 x.2] tq (0, 0)) ∧ w'.heap[r]? = some (.cells #[.int .i64 x.1] tr (0, 0)) := by
  have hta : ∀ w, (Instr.typeAssert (.iface 189 (.agg #[.int .i64 x.1, .int .i64 x.2])) 20 189 true).run Tryz.prog w = .ok (.tuple #[.agg #[.int .i64 x.1, .int .i64 x.2], .bool true]) w := fun _ => by kernel_rfl
  have hlp := (Array.getElem?_eq_some_iff.1 hp).1
  have hlq := (Array.getElem?_eq_some_iff.1 hq).1
  have hlr := (Array.getElem?_eq_some_iff.1 hr).1
  have m0 : Mod (fun _ => False) w ((w.alloc (.cells #[.int .i64 x.1, .int .i64 x.2] 189)).alloc (.cells #[.string ⟨#[]⟩, .slice none 0 0, .slice none 0 0] 46)) := ((Mod.refl _ w).alloc _).alloc _
  have gp := m0.at hp id
  have gq := m0.at hq id
  have gr := m0.at hr id
  have gw : ((w.alloc (.cells #[.int .i64 x.1, .int .i64 x.2] 189)).alloc (.cells #[.string ⟨#[]⟩, .slice none 0 0, .slice none 0 0] 46)).heap[w.heap.size]? = some (.cells #[.int .i64 x.1, .int .i64 x.2] 189 (0, 0)) := ((Mod.refl (fun _ => False) _).alloc _).at (heap_alloc_new w _) id
  have gz : ((w.alloc (.cells #[.int .i64 x.1, .int .i64 x.2] 189)).alloc (.cells #[.string ⟨#[]⟩, .slice none 0 0, .slice none 0 0] 46)).heap[w.heap.size + 1]? = some (.cells #[.string ⟨#[]⟩, .slice none 0 0, .slice none 0 0] 46 (0, 0)) := by
    have := heap_alloc_new (w.alloc (.cells #[.int .i64 x.1, .int .i64 x.2] 189)) (.cells #[.string ⟨#[]⟩, .slice none 0 0, .slice none 0 0] 46)
    simpa using this
  have HH := Lib.hid (And.intro m0 (And.intro gp (And.intro gq (And.intro gr (And.intro gw gz)))))
  have HNE := Lib.hid hne
  clear hp hq hr m0 gp gq gr gw gz
  unfold wrongE
  refine callsDIn_of_wpSIn Tryz.func111 rfl trivial fun c₀ cs hu => ?_
  apply wpSIn_seq
  apply wpSIn_region
  simp [wpOpsSIn, go_sem, recoverD, hu, Tryz.ntmps111, Exit.thenS, Fence.wide]
  refine wpSIn_of_wpIn rfl ((wpIn_wide (n := n)).2 ?_)
  simp only [Array.replicate_succ, Array.replicate_zero, List.push_toArray, List.append_toArray, List.nil_append, List.cons_append, List.setIfInBounds_toArray, List.set_cons_succ, List.set_cons_zero]
  go_wp2_with fail
  obtain ⟨W0, hW0⟩ : ∃ W0, W0 = ((w.alloc (.cells #[.int .i64 x.1, .int .i64 x.2] 189)).alloc (.cells #[.string ⟨#[]⟩, .slice none 0 0, .slice none 0 0] 46)) := ⟨_, rfl⟩
  rw [← hW0] at HH ⊢
  clear hW0 hta
  obtain ⟨m0, gp, gq, gr, gw, gz⟩ := HH.out
  have d0 := cell_at (j := 0) gw rfl
  have d1 := cell_at (j := 1) gw rfl
  have z0 := cell_at (j := 0) gz rfl
  have z1 := cell_at (j := 1) gz rfl
  have z2 := cell_at (j := 2) gz rfl
  have fp0 : W0.frozen? ⟨p, 0, none⟩ = false := frozen_at gp
  have cp0 := cell_at (j := 0) gp rfl
  have fp1 : W0.frozen? ⟨p, 1, none⟩ = false := frozen_at gp
  have cp1 := cell_at (j := 1) gp rfl
  have fp2 : W0.frozen? ⟨p, 2, none⟩ = false := frozen_at gp
  have cp2 := cell_at (j := 2) gp rfl
  obtain ⟨W1, hW1⟩ : ∃ W1, W1 = (((W0).setCell ⟨p, 0, none⟩ (.string ⟨#[]⟩)).setCell ⟨p, 1, none⟩ (.slice none 0 0)).setCell ⟨p, 2, none⟩ (.slice none 0 0) := ⟨_, rfl⟩
  have gp1 : W1.heap[p]? = some (.cells #[.string ⟨#[]⟩, .slice none 0 0, .slice none 0 0] tp (0, 0)) := by rw [hW1]; exact heap_setCell_at (j := 2) (.slice none 0 0) (heap_setCell_at (j := 1) (.slice none 0 0) (heap_setCell_at (j := 0) (.string ⟨#[]⟩) (gp)))
  have m1 : Mod (fun b => b = p) W0 W1 := by rw [hW1]; exact (((Mod.refl (fun b => b = p) W0).setCell (p := ⟨p, 0, none⟩) (fun _ => rfl) _).setCell (p := ⟨p, 1, none⟩) (fun _ => rfl) _).setCell (p := ⟨p, 2, none⟩) (fun _ => rfl) _
  have gq1 := m1.at gq (by omega)
  have gr1 := m1.at gr (by omega)
  have gw1 := m1.at gw (by omega)
  have gz1 := m1.at gz (by omega)
  have HA := Lib.hid (And.intro hW1 (And.intro gp1 (And.intro m1 (And.intro gq1 (And.intro gr1 (And.intro gw1 gz1))))))
  clear hW1 gp1 m1 gq1 gr1 gw1 gz1 gp gq gr gw gz HH
  have HM0 := Lib.hid m0
  clear m0
  refine wp_region_ord (fun w' => w'.cell? ⟨w.heap.size, 1, none⟩ = some (.int .i64 x.2) ∧ w'.cell? ⟨w.heap.size, 0, none⟩ = some (.int .i64 x.1) ∧ w'.cell? ⟨w.heap.size + 1, 0, none⟩ = some (.string ⟨#[]⟩) ∧ w'.cell? ⟨w.heap.size + 1, 1, none⟩ = some (.slice none 0 0) ∧ w'.cell? ⟨w.heap.size + 1, 2, none⟩ = some (.slice none 0 0)) [(1, 0), (0, 1), (1, 2), (0, 3), (1, 4), (2, 5), (2, 6), (3, 7)] (by kernel_rfl) (by kernel_rfl) ?_
  go_wp2_with (first
    | (refine ord_pure rfl rfl rfl (fun K hK => ?_); go_big_quiet_op; refine hK _ ?_; clear hK K)
                        | (refine ord_skip rfl rfl ?_; simp only [Act.put, List.setIfInBounds_toArray, List.set_cons_zero, List.set_cons_succ])
                        | (refine ord_held rfl rfl rfl (⟨by simpa using d1, by simpa using d0, by simpa using z0, by simpa using z1, by simpa using z2⟩) (fun K hK => ?_); apply Exists.intro; refine ⟨fun w' hs => ?_, hK _ ?_⟩; (revert hs; dsimp only; (try simp only [and_imp]); intros; go_simp; rfl); clear hK K)
                        | (refine ord_keep rfl rfl (⟨by simpa using d1, by simpa using d0, by simpa using z0, by simpa using z1, by simpa using z2⟩) (fun K hK => ?_))
                        | (refine ord_drop rfl rfl (fun K hK => ?_))
                        | (refine ord_nil ?_))
  obtain ⟨hW1, gp1, m1, gq1, gr1, gw1, gz1⟩ := HA.out
  rw [← hW1]
  clear d0 d1 z0 z1 z2 fp0 cp0 fp1 cp1 fp2 cp2 hW1 HA
  have d0 := cell_at (j := 0) gw1 rfl
  have d1 := cell_at (j := 1) gw1 rfl
  have z0 := cell_at (j := 0) gz1 rfl
  have z1 := cell_at (j := 1) gz1 rfl
  have z2 := cell_at (j := 2) gz1 rfl
  refine hK _ _ ⟨by simpa using d1, by simpa using d0, by simpa using z0, by simpa using z1, by simpa using z2⟩ ?_
  clear hK K
  have fq : W1.frozen? ⟨q, 0, none⟩ = false := frozen_at gq1
  have cq := cell_at (j := 0) gq1 rfl
  obtain ⟨W2, hW2⟩ : ∃ W2, W2 = W1.setCell ⟨q, 0, none⟩ (.int .i64 x.2) := ⟨_, rfl⟩
  have gq2 : W2.heap[q]? = some (.cells #[.int .i64 x.2] tq (0, 0)) := by rw [hW2]; exact heap_setCell_at (j := 0) (.int .i64 x.2) gq1
  have m2 : Mod (fun b => b = q) W1 W2 := by rw [hW2]; exact (Mod.refl (fun b => b = q) W1).setCell (p := ⟨q, 0, none⟩) (fun _ => rfl) _
  have gp2 := m2.at gp1 (by omega)
  have gr2 := m2.at gr1 (by omega)
  have gw2 := m2.at gw1 (by omega)
  have gz2 := m2.at gz1 (by omega)
  have HA := Lib.hid (And.intro hW2 (And.intro gp2 (And.intro m2 (And.intro gq2 (And.intro gr2 (And.intro gw2 gz2))))))
  have HM1 := Lib.hid m1
  clear hW2 gp2 m2 gq2 gr2 gw2 gz2 gp1 gq1 gr1 gw1 gz1 m1
  go_wp2_with (first
    | (refine ord_pure rfl rfl rfl (fun K hK => ?_); go_big_quiet_op; refine hK _ ?_; clear hK K)
                        | (refine ord_skip rfl rfl ?_; simp only [Act.put, List.setIfInBounds_toArray, List.set_cons_zero, List.set_cons_succ])
                        | (refine ord_held rfl rfl rfl (⟨by simpa using d1, by simpa using d0, by simpa using z0, by simpa using z1, by simpa using z2⟩) (fun K hK => ?_); apply Exists.intro; refine ⟨fun w' hs => ?_, hK _ ?_⟩; (revert hs; dsimp only; (try simp only [and_imp]); intros; go_simp; rfl); clear hK K)
                        | (refine ord_keep rfl rfl (⟨by simpa using d1, by simpa using d0, by simpa using z0, by simpa using z1, by simpa using z2⟩) (fun K hK => ?_))
                        | (refine ord_drop rfl rfl (fun K hK => ?_))
                        | (refine ord_nil ?_))
  obtain ⟨hW2, gp2, m2, gq2, gr2, gw2, gz2⟩ := HA.out
  rw [← hW2]
  clear d0 d1 z0 z1 z2 fq cq hW2 HA
  have d0 := cell_at (j := 0) gw2 rfl
  have d1 := cell_at (j := 1) gw2 rfl
  have z0 := cell_at (j := 0) gz2 rfl
  have z1 := cell_at (j := 1) gz2 rfl
  have z2 := cell_at (j := 2) gz2 rfl
  refine hK _ _ ⟨by simpa using d1, by simpa using d0, by simpa using z0, by simpa using z1, by simpa using z2⟩ ?_
  clear hK K
  have fr : W2.frozen? ⟨r, 0, none⟩ = false := frozen_at gr2
  have cr := cell_at (j := 0) gr2 rfl
  have hM := Lib.hid (((HM0.out.mono (T := fun b => b = p ∨ b = q ∨ b = r) (fun _ _ f => f.elim)).trans (HM1.out.mono fun _ _ e => .inl e)).trans ((m2.mono fun _ _ e => .inr (.inl e)).setCell (p := ⟨r, 0, none⟩) (fun _ => .inr (.inr rfl)) (.int .i64 x.1)))
  have m3 : Mod (fun b => b = r) W2 (W2.setCell ⟨r, 0, none⟩ (.int .i64 x.1)) := (Mod.refl (fun b => b = r) W2).setCell (p := ⟨r, 0, none⟩) (fun _ => rfl) _
  have HF := Lib.hid (And.intro (m3.at gp2 (by omega)) (And.intro (m3.at gq2 (by omega)) (heap_setCell_at (j := 0) (.int .i64 x.1) gr2)))
  clear gp2 m2 gq2 gr2 gw2 gz2 m3
  go_wp2_with (first
    | (refine ord_pure rfl rfl rfl (fun K hK => ?_); go_big_quiet_op; refine hK _ ?_; clear hK K)
                        | (refine ord_skip rfl rfl ?_; simp only [Act.put, List.setIfInBounds_toArray, List.set_cons_zero, List.set_cons_succ])
                        | (refine ord_held rfl rfl rfl (⟨by simpa using d1, by simpa using d0, by simpa using z0, by simpa using z1, by simpa using z2⟩) (fun K hK => ?_); apply Exists.intro; refine ⟨fun w' hs => ?_, hK _ ?_⟩; (revert hs; dsimp only; (try simp only [and_imp]); intros; go_simp; rfl); clear hK K)
                        | (refine ord_keep rfl rfl (⟨by simpa using d1, by simpa using d0, by simpa using z0, by simpa using z1, by simpa using z2⟩) (fun K hK => ?_))
                        | (refine ord_drop rfl rfl (fun K hK => ?_))
                        | (refine ord_nil ?_))
  generalize W2.setCell ⟨r, 0, none⟩ (.int .i64 x.1) = W3 at *
  clear d0 d1 z0 z1 z2 fr cr
  go_wp2_with fail
  simp [bodyPostS, results, Tryz.results111]
  exact ⟨hM.out.drew, HF.out.1, HF.out.2.1, HF.out.2.2⟩
theorem catchA_idle (n : Nat) (p q r : Addr) (w : World) :
    CallsDIn Fence.wide n Tryz.prog 118 #[.pointer (some p), .pointer (some q), .pointer (some r)] .returning w fun e u' w' => (∃ v, e = .returned v) ∧ u' = .returning ∧ w' = w := by
  refine callsDIn_of_wpSIn Tryz.func118 rfl trivial fun c₀ cs hu => ?_
  apply wpSIn_seq
  apply wpSIn_region
  simp [wpOpsSIn, go_sem, recoverD, hu, Tryz.ntmps118, Exit.thenS, Fence.wide]
  refine wpSIn_of_wpIn rfl ((wpIn_wide (n := n)).2 ?_)
  simp only [Array.replicate_succ, Array.replicate_zero, List.push_toArray, List.append_toArray, List.nil_append, List.cons_append, List.setIfInBounds_toArray, List.set_cons_succ, List.set_cons_zero]
  go_wp2
  cases c₀
  simp_all [bodyPostS, results, Tryz.results118]
theorem catchA_wrong (n : Nat) (p q r : Nat) (u0 u1 y1 y2 : Value) (tp tq tr : TypeId) (x : Nat × Nat) (w : World) (hp : w.heap[p]? = some (.cells #[u0, u1] tp (0, 0))) (hq : w.heap[q]? = some (.cells #[y1] tq (0, 0))) (hr : w.heap[r]? = some (.cells #[y2] tr (0, 0))) (hne : p ≠ q ∧ p ≠ r ∧ q ≠ r) :
    CallsDIn Fence.wide n Tryz.prog 118 #[.pointer (some ⟨p, 0, none⟩), .pointer (some ⟨q, 0, none⟩), .pointer (some ⟨r, 0, none⟩)] (.panicking (wrongE x)) w fun e u' w' => (∃ v, e = .returned v) ∧ u' = .panicking [{ v := .iface 189 (.agg #[.int .i64 x.1, .int .i64 x.2]), recovered := true }] ∧
      Mod (fun b => b = p ∨ b = q ∨ b = r) w w' ∧ w'.heap[p]? = some (.cells #[.string ⟨#[]⟩, .slice none 0 0] tp (0, 0)) ∧ w'.heap[q]? = some (.cells #[.int .i64 x.2] tq (0, 0)) ∧ w'.heap[r]? = some (.cells #[.int .i64 x.1] tr (0, 0)) := by
  have hta : ∀ w, (Instr.typeAssert (.iface 189 (.agg #[.int .i64 x.1, .int .i64 x.2])) 20 189 true).run Tryz.prog w = .ok (.tuple #[.agg #[.int .i64 x.1, .int .i64 x.2], .bool true]) w := fun _ => by kernel_rfl
  have hlp := (Array.getElem?_eq_some_iff.1 hp).1
  have hlq := (Array.getElem?_eq_some_iff.1 hq).1
  have hlr := (Array.getElem?_eq_some_iff.1 hr).1
  have m0 : Mod (fun _ => False) w ((w.alloc (.cells #[.int .i64 x.1, .int .i64 x.2] 189)).alloc (.cells #[.string ⟨#[]⟩, .slice none 0 0] 43)) := ((Mod.refl _ w).alloc _).alloc _
  have gp := m0.at hp id
  have gq := m0.at hq id
  have gr := m0.at hr id
  have gw : ((w.alloc (.cells #[.int .i64 x.1, .int .i64 x.2] 189)).alloc (.cells #[.string ⟨#[]⟩, .slice none 0 0] 43)).heap[w.heap.size]? = some (.cells #[.int .i64 x.1, .int .i64 x.2] 189 (0, 0)) := ((Mod.refl (fun _ => False) _).alloc _).at (heap_alloc_new w _) id
  have gz : ((w.alloc (.cells #[.int .i64 x.1, .int .i64 x.2] 189)).alloc (.cells #[.string ⟨#[]⟩, .slice none 0 0] 43)).heap[w.heap.size + 1]? = some (.cells #[.string ⟨#[]⟩, .slice none 0 0] 43 (0, 0)) := by
    have := heap_alloc_new (w.alloc (.cells #[.int .i64 x.1, .int .i64 x.2] 189)) (.cells #[.string ⟨#[]⟩, .slice none 0 0] 43)
    simpa using this
  have HH := Lib.hid (And.intro m0 (And.intro gp (And.intro gq (And.intro gr (And.intro gw gz)))))
  have HNE := Lib.hid hne
  clear hp hq hr m0 gp gq gr gw gz
  unfold wrongE
  refine callsDIn_of_wpSIn Tryz.func118 rfl trivial fun c₀ cs hu => ?_
  apply wpSIn_seq
  apply wpSIn_region
  simp [wpOpsSIn, go_sem, recoverD, hu, Tryz.ntmps118, Exit.thenS, Fence.wide]
  refine wpSIn_of_wpIn rfl ((wpIn_wide (n := n)).2 ?_)
  simp only [Array.replicate_succ, Array.replicate_zero, List.push_toArray, List.append_toArray, List.nil_append, List.cons_append, List.setIfInBounds_toArray, List.set_cons_succ, List.set_cons_zero]
  go_wp2_with fail
  obtain ⟨W0, hW0⟩ : ∃ W0, W0 = ((w.alloc (.cells #[.int .i64 x.1, .int .i64 x.2] 189)).alloc (.cells #[.string ⟨#[]⟩, .slice none 0 0] 43)) := ⟨_, rfl⟩
  rw [← hW0] at HH ⊢
  clear hW0 hta
  obtain ⟨m0, gp, gq, gr, gw, gz⟩ := HH.out
  have d0 := cell_at (j := 0) gw rfl
  have d1 := cell_at (j := 1) gw rfl
  have z0 := cell_at (j := 0) gz rfl
  have z1 := cell_at (j := 1) gz rfl
  have fp0 : W0.frozen? ⟨p, 0, none⟩ = false := frozen_at gp
  have cp0 := cell_at (j := 0) gp rfl
  have fp1 : W0.frozen? ⟨p, 1, none⟩ = false := frozen_at gp
  have cp1 := cell_at (j := 1) gp rfl
  obtain ⟨W1, hW1⟩ : ∃ W1, W1 = ((W0).setCell ⟨p, 0, none⟩ (.string ⟨#[]⟩)).setCell ⟨p, 1, none⟩ (.slice none 0 0) := ⟨_, rfl⟩
  have gp1 : W1.heap[p]? = some (.cells #[.string ⟨#[]⟩, .slice none 0 0] tp (0, 0)) := by rw [hW1]; exact heap_setCell_at (j := 1) (.slice none 0 0) (heap_setCell_at (j := 0) (.string ⟨#[]⟩) (gp))
  have m1 : Mod (fun b => b = p) W0 W1 := by rw [hW1]; exact ((Mod.refl (fun b => b = p) W0).setCell (p := ⟨p, 0, none⟩) (fun _ => rfl) _).setCell (p := ⟨p, 1, none⟩) (fun _ => rfl) _
  have gq1 := m1.at gq (by omega)
  have gr1 := m1.at gr (by omega)
  have gw1 := m1.at gw (by omega)
  have gz1 := m1.at gz (by omega)
  have HA := Lib.hid (And.intro hW1 (And.intro gp1 (And.intro m1 (And.intro gq1 (And.intro gr1 (And.intro gw1 gz1))))))
  clear hW1 gp1 m1 gq1 gr1 gw1 gz1 gp gq gr gw gz HH
  have HM0 := Lib.hid m0
  clear m0
  refine wp_region_ord (fun w' => w'.cell? ⟨w.heap.size, 1, none⟩ = some (.int .i64 x.2) ∧ w'.cell? ⟨w.heap.size, 0, none⟩ = some (.int .i64 x.1) ∧ w'.cell? ⟨w.heap.size + 1, 0, none⟩ = some (.string ⟨#[]⟩) ∧ w'.cell? ⟨w.heap.size + 1, 1, none⟩ = some (.slice none 0 0)) [(1, 0), (0, 1), (1, 2), (0, 3), (1, 4), (2, 5), (2, 6), (3, 7)] (by kernel_rfl) (by kernel_rfl) ?_
  go_wp2_with (first
    | (refine ord_pure rfl rfl rfl (fun K hK => ?_); go_big_quiet_op; refine hK _ ?_; clear hK K)
                        | (refine ord_skip rfl rfl ?_; simp only [Act.put, List.setIfInBounds_toArray, List.set_cons_zero, List.set_cons_succ])
                        | (refine ord_held rfl rfl rfl (⟨by simpa using d1, by simpa using d0, by simpa using z0, by simpa using z1⟩) (fun K hK => ?_); apply Exists.intro; refine ⟨fun w' hs => ?_, hK _ ?_⟩; (revert hs; dsimp only; (try simp only [and_imp]); intros; go_simp; rfl); clear hK K)
                        | (refine ord_keep rfl rfl (⟨by simpa using d1, by simpa using d0, by simpa using z0, by simpa using z1⟩) (fun K hK => ?_))
                        | (refine ord_drop rfl rfl (fun K hK => ?_))
                        | (refine ord_nil ?_))
  obtain ⟨hW1, gp1, m1, gq1, gr1, gw1, gz1⟩ := HA.out
  rw [← hW1]
  clear d0 d1 z0 z1 fp0 cp0 fp1 cp1 hW1 HA
  have d0 := cell_at (j := 0) gw1 rfl
  have d1 := cell_at (j := 1) gw1 rfl
  have z0 := cell_at (j := 0) gz1 rfl
  have z1 := cell_at (j := 1) gz1 rfl
  refine hK _ _ ⟨by simpa using d1, by simpa using d0, by simpa using z0, by simpa using z1⟩ ?_
  clear hK K
  have fq : W1.frozen? ⟨q, 0, none⟩ = false := frozen_at gq1
  have cq := cell_at (j := 0) gq1 rfl
  obtain ⟨W2, hW2⟩ : ∃ W2, W2 = W1.setCell ⟨q, 0, none⟩ (.int .i64 x.2) := ⟨_, rfl⟩
  have gq2 : W2.heap[q]? = some (.cells #[.int .i64 x.2] tq (0, 0)) := by rw [hW2]; exact heap_setCell_at (j := 0) (.int .i64 x.2) gq1
  have m2 : Mod (fun b => b = q) W1 W2 := by rw [hW2]; exact (Mod.refl (fun b => b = q) W1).setCell (p := ⟨q, 0, none⟩) (fun _ => rfl) _
  have gp2 := m2.at gp1 (by omega)
  have gr2 := m2.at gr1 (by omega)
  have gw2 := m2.at gw1 (by omega)
  have gz2 := m2.at gz1 (by omega)
  have HA := Lib.hid (And.intro hW2 (And.intro gp2 (And.intro m2 (And.intro gq2 (And.intro gr2 (And.intro gw2 gz2))))))
  have HM1 := Lib.hid m1
  clear hW2 gp2 m2 gq2 gr2 gw2 gz2 gp1 gq1 gr1 gw1 gz1 m1
  go_wp2_with (first
    | (refine ord_pure rfl rfl rfl (fun K hK => ?_); go_big_quiet_op; refine hK _ ?_; clear hK K)
                        | (refine ord_skip rfl rfl ?_; simp only [Act.put, List.setIfInBounds_toArray, List.set_cons_zero, List.set_cons_succ])
                        | (refine ord_held rfl rfl rfl (⟨by simpa using d1, by simpa using d0, by simpa using z0, by simpa using z1⟩) (fun K hK => ?_); apply Exists.intro; refine ⟨fun w' hs => ?_, hK _ ?_⟩; (revert hs; dsimp only; (try simp only [and_imp]); intros; go_simp; rfl); clear hK K)
                        | (refine ord_keep rfl rfl (⟨by simpa using d1, by simpa using d0, by simpa using z0, by simpa using z1⟩) (fun K hK => ?_))
                        | (refine ord_drop rfl rfl (fun K hK => ?_))
                        | (refine ord_nil ?_))
  obtain ⟨hW2, gp2, m2, gq2, gr2, gw2, gz2⟩ := HA.out
  rw [← hW2]
  clear d0 d1 z0 z1 fq cq hW2 HA
  have d0 := cell_at (j := 0) gw2 rfl
  have d1 := cell_at (j := 1) gw2 rfl
  have z0 := cell_at (j := 0) gz2 rfl
  have z1 := cell_at (j := 1) gz2 rfl
  refine hK _ _ ⟨by simpa using d1, by simpa using d0, by simpa using z0, by simpa using z1⟩ ?_
  clear hK K
  have fr : W2.frozen? ⟨r, 0, none⟩ = false := frozen_at gr2
  have cr := cell_at (j := 0) gr2 rfl
  have hM := Lib.hid (((HM0.out.mono (T := fun b => b = p ∨ b = q ∨ b = r) (fun _ _ f => f.elim)).trans (HM1.out.mono fun _ _ e => .inl e)).trans ((m2.mono fun _ _ e => .inr (.inl e)).setCell (p := ⟨r, 0, none⟩) (fun _ => .inr (.inr rfl)) (.int .i64 x.1)))
  have m3 : Mod (fun b => b = r) W2 (W2.setCell ⟨r, 0, none⟩ (.int .i64 x.1)) := (Mod.refl (fun b => b = r) W2).setCell (p := ⟨r, 0, none⟩) (fun _ => rfl) _
  have HF := Lib.hid (And.intro (m3.at gp2 (by omega)) (And.intro (m3.at gq2 (by omega)) (heap_setCell_at (j := 0) (.int .i64 x.1) gr2)))
  clear gp2 m2 gq2 gr2 gw2 gz2 m3
  go_wp2_with (first
    | (refine ord_pure rfl rfl rfl (fun K hK => ?_); go_big_quiet_op; refine hK _ ?_; clear hK K)
                        | (refine ord_skip rfl rfl ?_; simp only [Act.put, List.setIfInBounds_toArray, List.set_cons_zero, List.set_cons_succ])
                        | (refine ord_held rfl rfl rfl (⟨by simpa using d1, by simpa using d0, by simpa using z0, by simpa using z1⟩) (fun K hK => ?_); apply Exists.intro; refine ⟨fun w' hs => ?_, hK _ ?_⟩; (revert hs; dsimp only; (try simp only [and_imp]); intros; go_simp; rfl); clear hK K)
                        | (refine ord_keep rfl rfl (⟨by simpa using d1, by simpa using d0, by simpa using z0, by simpa using z1⟩) (fun K hK => ?_))
                        | (refine ord_drop rfl rfl (fun K hK => ?_))
                        | (refine ord_nil ?_))
  generalize W2.setCell ⟨r, 0, none⟩ (.int .i64 x.1) = W3 at *
  clear d0 d1 z0 z1 fr cr
  go_wp2_with fail
  simp [bodyPostS, results, Tryz.results118]
  exact ⟨hM.out.drew, HF.out.1, HF.out.2.1, HF.out.2.2⟩
end Go.Proofs.YteecbbnpgmceiaaGreatDoor
