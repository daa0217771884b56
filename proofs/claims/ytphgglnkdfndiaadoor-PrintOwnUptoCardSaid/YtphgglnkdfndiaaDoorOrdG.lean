/-
  A region that draws its order, two of whose effects may come up either way: walked once for each way.
-/
import Derived.Test.YtphgglnkdfndiaaDoorOrd
namespace Go.Mine
open Go Go.RowKit

def pairsEx (ops : List Oper) (cl : List (List Nat)) (e : Nat × Nat) : List (Nat × Nat) → Bool
  | [] => true
  | x :: r => r.all (fun y => pairOk ops cl x y || (x.2 == e.1 && (y.2 == e.2 || (cl.getD y.2 []).contains e.2))) && pairsEx ops cl e r
def ordOk2 (l : List Oper) (e : Nat × Nat) (ord : List (Nat × Nat)) : Bool :=
  Region.noSelect l.toArray && (ord.length == l.length) && (List.range l.length).all (fun i => (ord.map (·.2)).contains i) && ord.all (fun x => decide (x.2 < l.length)) && decide ((ord.map (·.2)).Nodup) &&
    closureOk l (closure l) && edgesBack l && pairsEx l (closure l) e ord

section
variable {P : Program} {l : List Oper} {S : World → Prop} {Q : Exit → Act → World → Prop}
structure OrdInv0 (l : List Oper) (r : List (Nat × Nat)) (listed : Array Bool) : Prop where
  size : listed.size = l.length
  lt : ∀ x ∈ r, x.2 < l.length
  nodup : (r.map (·.2)).Nodup
  left : ∀ i, i < l.length → (listed.getD i true = false ↔ i ∈ r.map (·.2))
  down : DownC l listed
theorem OrdInv0.next {pre post : List (Nat × Nat)} {y : Nat × Nat} {listed : Array Bool} (inv : OrdInv0 l (pre ++ y :: post) listed) {o : Oper} (hol : l[y.2]? = some o)
    (hall : ∀ e ∈ o.after, Region.binds .any e = true → listed.getD e.on false = true) : OrdInv0 l (pre ++ post) (listed.setIfInBounds y.2 true) := by
  have hlt : y.2 < l.length := inv.lt y (by simp)
  refine ⟨by simpa using inv.size, fun x hx => inv.lt x ?_, ?_, fun i hi => ?_, ?_⟩
  · rcases List.mem_append.1 hx with h | h <;> simp [h]
  · have := inv.nodup
    simp only [List.map_append, List.map_cons] at this ⊢
    exact (List.nodup_cons.1 (List.perm_middle.nodup_iff.1 this)).2
  · have hnd := inv.nodup
    simp only [List.map_append, List.map_cons] at hnd
    have hnd2 := (List.nodup_cons.1 (List.perm_middle.nodup_iff.1 hnd)).1
    by_cases e : y.2 = i
    · subst e
      simp only [List.map_append]
      constructor
      · intro hh; simp [inv.size, hlt] at hh
      · intro hh; exact absurd hh hnd2
    · rw [getD_set_ne true e, inv.left i hi]
      simp only [List.map_append, List.map_cons, List.mem_append, List.mem_cons]
      constructor
      · rintro (h | h | h)
        · exact .inl h
        · exact absurd h.symm e
        · exact .inr h
      · rintro (h | h)
        · exact .inl h
        · exact .inr (.inr h)
  · intro k ok hk hok e he hb
    by_cases e1 : y.2 = k
    · subst e1
      rw [hol] at hok; cases hok
      exact getD_set_true (hall e he hb)
    · have hk' : listed.getD k false = true := by rwa [getD_set_ne false e1] at hk
      exact getD_set_true (inv.down k ok hk' hok e he hb)
theorem pairsEx_app {cl : List (List Nat)} {e : Nat × Nat} : ∀ (pre : List (Nat × Nat)) {y : Nat × Nat} {post : List (Nat × Nat)}, pairsEx l cl e (pre ++ y :: post) = true →
    pairsEx l cl e (pre ++ post) = true ∧ ∀ x ∈ pre, pairOk l cl x y = true ∨ (x.2 = e.1 ∧ (y.2 = e.2 ∨ e.2 ∈ cl.getD y.2 []))
  | [], y, post, h => by
    simp only [List.nil_append, pairsEx, Bool.and_eq_true] at h
    exact ⟨h.2, by simp⟩
  | x :: pre, y, post, h => by
    simp only [List.cons_append, pairsEx, Bool.and_eq_true, List.all_eq_true] at h
    obtain ⟨h1, h2⟩ := h
    obtain ⟨h3, h4⟩ := pairsEx_app pre h2
    refine ⟨?_, fun z hz => ?_⟩
    · simp only [List.cons_append, pairsEx, Bool.and_eq_true, List.all_eq_true]
      exact ⟨fun z hz => h1 z (by rcases List.mem_append.1 hz with h | h <;> simp [h]), h3⟩
    · rcases List.mem_cons.1 hz with rfl | hz
      · have := h1 y (by simp)
        simp only [Bool.or_eq_true, Bool.and_eq_true, beq_iff_eq, List.contains_iff_mem] at this
        exact this
      · exact h4 z hz
theorem pairsEx_free {cl : List (List Nat)} {e : Nat × Nat} : ∀ (r : List (Nat × Nat)), pairsEx l cl e r = true → e.1 ∉ r.map (·.2) → pairsOk l cl r = true
  | [], _, _ => rfl
  | x :: r, h, hn => by
    simp only [pairsEx, Bool.and_eq_true, List.all_eq_true, Bool.or_eq_true, beq_iff_eq] at h
    simp only [pairsOk, Bool.and_eq_true, List.all_eq_true]
    refine ⟨fun y hy => ?_, pairsEx_free r h.2 (fun m => hn (List.mem_cons_of_mem _ m))⟩
    rcases h.1 y hy with h | ⟨h1, h2⟩
    · exact h
    · exact absurd (by rw [← h1]; exact List.mem_cons_self ..) hn
theorem front_of (hsel : Region.noSelect l.toArray = true) (hcl : closureOk l (closure l) = true) {pre post : List (Nat × Nat)} {y : Nat × Nat} {listed : Array Bool} (inv : OrdInv0 l (pre ++ y :: post) listed) {o : Oper} (hol : l[y.2]? = some o)
    (hall : ∀ e ∈ o.after, Region.binds .any e = true → listed.getD e.on false = true) (hp2 : ∀ x ∈ pre, pairOk l (closure l) x y = true) {a : Act} {w : World}
    (h : wpOrd P l S Q (pre ++ y :: post) a w) : OrdStep P l S Q y (wpOrd P l S Q (pre ++ post)) a w := by
  have hlt : y.2 < l.length := inv.lt y (by simp)
  refine wpOrd.front hsel pre (fun x hx => ?_) a w h
  have hxy := hp2 x hx
  simp only [pairOk, Bool.or_eq_true, Bool.and_eq_true, List.contains_iff_mem] at hxy
  rcases hxy with hxy | ⟨h2, h3⟩
  · exfalso
    have hl := closure_listed hcl inv.down y.2 o hlt hol hall x.2 hxy
    have hxl := inv.lt x (by simp [hx])
    have := (inv.left x.2 hxl).2 (by simp; exact .inl ⟨x.1, hx⟩)
    rw [getD_bool (by rw [inv.size]; exact hxl) true false, hl] at this
    cases this
  · refine ⟨h2, ?_⟩
    have hxl := inv.lt x (by simp [hx])
    rw [hol, List.getElem?_eq_getElem hxl] at h3
    simp only [Bool.and_eq_true] at h3
    exact ⟨l[x.2], o, by simp [hxl], hol, h3.1⟩
/-- what comes up ahead of the two yields alone, and alike in both orders -/
def KeepEx (l : List Oper) (p q : Nat) (r1 r2 : List (Nat × Nat)) : Prop :=
  ∀ x ∈ r1, x.2 = p ∨ x.2 = q ∨ p ∈ (closure l).getD x.2 [] ∨ q ∈ (closure l).getD x.2 [] ∨ (x ∈ r2 ∧ x.1 ≤ 1)
def keepExB (l : List Oper) (p q : Nat) (r1 r2 : List (Nat × Nat)) : Bool :=
  r1.all fun x => x.2 == p || x.2 == q || ((closure l).getD x.2 []).contains p || ((closure l).getD x.2 []).contains q || (r2.contains x && decide (x.1 ≤ 1))
theorem keepEx_of {p q : Nat} {r1 r2 : List (Nat × Nat)} (h : keepExB l p q r1 r2 = true) : KeepEx l p q r1 r2 := by
  intro x hx
  simp only [keepExB, List.all_eq_true, Bool.or_eq_true, Bool.and_eq_true, beq_iff_eq, decide_eq_true_eq, List.contains_iff_mem] at h
  rcases h x hx with (((h | h) | h) | h) | h
  · exact .inl h
  · exact .inr (.inl h)
  · exact .inr (.inr (.inl h))
  · exact .inr (.inr (.inr (.inl h)))
  · exact .inr (.inr (.inr (.inr h)))
theorem nodup_mid {pre post : List (Nat × Nat)} {y : Nat × Nat} (h : ((pre ++ y :: post).map (·.2)).Nodup) : y.2 ∉ (pre ++ post).map (·.2) := by
  simp only [List.map_append, List.map_cons] at h ⊢
  exact (List.nodup_cons.1 (List.perm_middle.nodup_iff.1 h)).1
theorem not_listed {r : List (Nat × Nat)} {listed : Array Bool} (inv : OrdInv0 l r listed) {i : Nat} (hi : i ∈ r.map (·.2)) : listed.getD i false = false := by
  obtain ⟨x, hx, rfl⟩ := List.mem_map.1 hi
  have hlt := inv.lt x hx
  rw [getD_bool (by rw [inv.size]; exact hlt) false true]
  exact (inv.left _ hlt).2 hi
theorem wpAny_of_ord2 (hsel : Region.noSelect l.toArray = true) (hcl : closureOk l (closure l) = true) (hback : edgesBack l = true) {p q : Nat} (hpq : p ≠ q) : ∀ (m : Nat) (r1 r2 : List (Nat × Nat)) (listed : Array Bool) (a : Act) (w : World),
    r1.length = m → r2.length = m → OrdInv0 l r1 listed → OrdInv0 l r2 listed → pairsEx l (closure l) (p, q) r1 = true → pairsEx l (closure l) (q, p) r2 = true → KeepEx l p q r1 r2 → p ∈ r1.map (·.2) → q ∈ r1.map (·.2) →
    wpOrd P l S Q r1 a w → wpOrd P l S Q r2 a w → wpAny P .any l.toArray (Strict Q) m listed a w
  | 0, r1, r2, listed, a, w, hm, hm2, inv, inv2, hp, hp2, hk, hpm, hqm, h, h2 => by
    obtain rfl : r1 = [] := List.eq_nil_of_length_eq_zero hm
    simp at hpm
  | m + 1, r1, r2, listed, a, w, hm, hm2, inv, inv2, hp, hp2, hk, hpm, hqm, h, h2 => by
    refine ⟨fun h0 => ?_, fun i hi => ?_⟩
    · exfalso
      obtain ⟨i, hi, hmin⟩ := exists_min (r1.map (·.2)) (by intro e; simp at e; rw [e] at hm; cases hm)
      obtain ⟨x, hx, rfl⟩ := List.mem_map.1 hi
      have hlt := inv.lt x hx
      have : x.2 ∈ Region.ready .any l.toArray listed := by
        refine mem_ready.2 ⟨(inv.left _ hlt).2 hi, l[x.2], by simp [hlt], fun e he hb => ?_⟩
        simp only [edgesBack, List.all_eq_true, List.mem_range] at hback
        have hb2 := hback x.2 hlt
        rw [List.getElem?_eq_getElem hlt] at hb2
        simp only [List.all_eq_true, Bool.or_eq_true, Bool.not_eq_true', decide_eq_true_eq] at hb2
        have hlt2 : e.on < x.2 := by
          rcases hb2 e (by simpa using he) with h | h
          · rw [hb] at h; cases h
          · exact h
        have hn : ¬ e.on ∈ r1.map (·.2) := fun hh => by have := hmin _ hh; omega
        have := mt (inv.left e.on (by omega)).1 hn
        rw [getD_bool (by rw [inv.size]; omega) false true]
        simpa using this
      rw [h0] at this; cases this
    · obtain ⟨h1, o, ho, hall⟩ := mem_ready.1 hi
      have hlt : i < l.length := by
        have := (Array.getElem?_eq_some_iff.1 ho).1; simpa using this
      have hol : l[i]? = some o := by simpa using ho
      obtain ⟨y, hy, rfl⟩ := List.mem_map.1 ((inv.left i hlt).1 h1)
      by_cases eq : y.2 = q
      · obtain ⟨z, hz, hzy⟩ := List.mem_map.1 ((inv2.left y.2 hlt).1 h1)
        obtain ⟨pre2, post2, rfl⟩ := List.append_of_mem hz
        obtain ⟨hb1, hb2⟩ := pairsEx_app pre2 hp2
        have nx2 := inv2.next (y := z) (by rw [hzy]; exact hol) (by exact hall)
        have ne2 := nodup_mid inv2.nodup
        rw [hzy] at nx2 ne2
        have hh := front_of (P := P) (S := S) (Q := Q) hsel hcl inv2 (by rw [hzy]; exact hol) hall (fun x hx => (hb2 x hx).resolve_right (fun e => ne2 (List.mem_map.2 ⟨x, List.mem_append.2 (.inl hx), by rw [← eq] at e; exact e.1⟩))) h2
        have hh2 := hh.wpOp
        rw [hzy] at hh2
        refine wpOp_mono (fun a' w' h' => ?_) hh2
        exact wpAny_of_ord hsel hcl hback m _ _ _ _ (by simp at hm2 ⊢; omega) ⟨nx2.size, nx2.lt, nx2.nodup, nx2.left, nx2.down, pairsEx_free _ hb1 (by simp only; rw [← eq]; exact ne2)⟩ h'
      · by_cases ep : y.2 = p
        · obtain ⟨pre, post, rfl⟩ := List.append_of_mem hy
          obtain ⟨ha1, ha2⟩ := pairsEx_app pre hp
          have nx1 := inv.next hol hall
          have ne1 := nodup_mid inv.nodup
          have hh := front_of (P := P) (S := S) (Q := Q) hsel hcl inv hol hall (fun x hx => (ha2 x hx).resolve_right (fun e => ne1 (List.mem_map.2 ⟨x, List.mem_append.2 (.inl hx), by rw [← ep] at e; exact e.1⟩))) h
          refine wpOp_mono (fun a' w' h' => ?_) hh.wpOp
          exact wpAny_of_ord hsel hcl hback m _ _ _ _ (by simp at hm ⊢; omega) ⟨nx1.size, nx1.lt, nx1.nodup, nx1.left, nx1.down, pairsEx_free _ ha1 (by simp only; rw [← ep]; exact ne1)⟩ h'
        · have hnp : p ∉ (closure l).getD y.2 [] := fun h => by
            have := closure_listed hcl inv.down y.2 o hlt hol hall _ h
            rw [not_listed inv hpm] at this; cases this
          have hnq : q ∉ (closure l).getD y.2 [] := fun h => by
            have := closure_listed hcl inv.down y.2 o hlt hol hall _ h
            rw [not_listed inv hqm] at this; cases this
          obtain ⟨hy2, hk1⟩ := (((((hk y hy).resolve_left ep).resolve_left eq).resolve_left hnp).resolve_left hnq)
          obtain ⟨pre, post, rfl⟩ := List.append_of_mem hy
          obtain ⟨pre2, post2, rfl⟩ := List.append_of_mem hy2
          obtain ⟨ha1, ha2⟩ := pairsEx_app pre hp
          obtain ⟨hb1, hb2⟩ := pairsEx_app pre2 hp2
          have nx1 := inv.next hol hall
          have nx2 := inv2.next hol hall
          have ne1 := nodup_mid inv.nodup
          have hh := front_of (P := P) (S := S) (Q := Q) hsel hcl inv hol hall (fun x hx => (ha2 x hx).resolve_right (fun e => e.2.elim eq hnq)) h
          have hg := front_of (P := P) (S := S) (Q := Q) hsel hcl inv2 hol hall (fun x hx => (hb2 x hx).resolve_right (fun e => e.2.elim ep hnp)) h2
          rcases hh.cases hol with ⟨v, hv, h'⟩ | ⟨_, h3, _⟩
          · rcases hg.cases hol with ⟨v2, hv2, h''⟩ | ⟨_, h3, _⟩
            · have hv3 := hv.uniq hv2
              subst hv3
              have hst : OrdStep P l S Q y (fun a' w' => wpOrd P l S Q (pre ++ post) a' w' ∧ wpOrd P l S Q (pre2 ++ post2) a' w') a w := hv.step hol ⟨h', h''⟩
              refine wpOp_mono (fun a' w' h' => ?_) hst.wpOp
              have mem1 : ∀ i, i ∈ (pre ++ y :: post).map (·.2) → y.2 ≠ i → i ∈ (pre ++ post).map (·.2) := by
                intro i hi hne
                simp only [List.map_append, List.map_cons, List.mem_append, List.mem_cons] at hi ⊢
                rcases hi with h | h | h
                · exact .inl h
                · exact absurd h.symm hne
                · exact .inr h
              refine wpAny_of_ord2 hsel hcl hback hpq m _ _ _ _ _ (by simp at hm ⊢; omega) (by simp at hm2 ⊢; omega) nx1 nx2 ha1 hb1 (fun x hx => ?_) (mem1 _ hpm ep) (mem1 _ hqm eq) h'.1 h'.2
              rcases hk x (by rcases List.mem_append.1 hx with h | h <;> simp [h]) with h | h | h | h | ⟨h, h4⟩
              · exact .inl h
              · exact .inr (.inl h)
              · exact .inr (.inr (.inl h))
              · exact .inr (.inr (.inr (.inl h)))
              · refine .inr (.inr (.inr (.inr ⟨?_, h4⟩)))
                have hne : x ≠ y := fun e => ne1 (by rw [← e]; exact List.mem_map.2 ⟨x, hx, rfl⟩)
                rcases List.mem_append.1 h with h | h
                · exact List.mem_append.2 (.inl h)
                · rcases List.mem_cons.1 h with h | h
                  · exact absurd h hne
                  · exact List.mem_append.2 (.inr h)
            · omega
          · omega
/-- A REGION THAT DRAWS ITS ORDER, p and q in it coming up either way: walked in two orders -/
theorem wp_region_ord2 {id : Nat} {a : Act} {w : World} (S : World → Prop) (p q : Nat) (ord1 ord2 : List (Nat × Nat)) (hm : P.follows .mixedOrders = true) (hB1 : ordOk2 l (p, q) ord1 = true) (hB2 : ordOk2 l (q, p) ord2 = true) (hB3 : (decide (p ≠ q) && keepExB l p q ord1 ord2 && (ord1.map (·.2)).contains p && (ord1.map (·.2)).contains q) = true)
    (h : wpOrd P l S Q ord1 a w.drew) (h2 : wpOrd P l S Q ord2 a w.drew) : (Code.region id l.toArray true).wp P Q a w := by
  simp only [ordOk2, Bool.and_eq_true, beq_iff_eq, List.all_eq_true, decide_eq_true_eq] at hB1 hB2
  obtain ⟨⟨⟨⟨⟨⟨⟨a1, a2⟩, a8⟩, a3⟩, a4⟩, a5⟩, a6⟩, a7⟩ := hB1
  obtain ⟨⟨⟨⟨⟨⟨⟨_, b2⟩, b8⟩, b3⟩, b4⟩, _⟩, _⟩, b7⟩ := hB2
  simp only [Bool.and_eq_true, decide_eq_true_eq, List.contains_iff_mem] at hB3
  obtain ⟨⟨⟨c1, c2⟩, c3⟩, c4⟩ := hB3
  refine Code.wp_mono Strict.imp (wp_region_any hm ?_)
  have inv0 : ∀ ord : List (Nat × Nat), (∀ x ∈ ord, x.2 < l.length) → (ord.map (·.2)).Nodup → (∀ x ∈ List.range l.length, (ord.map (·.2)).contains x = true) → OrdInv0 l ord (Array.replicate l.length false) := by
    intro ord h3 h4 h8
    refine ⟨by simp, h3, h4, fun i hi => ?_, fun k o hk => ?_⟩
    · simp only [Array.getD_eq_getD_getElem?, Array.getElem?_replicate, hi, if_true, Option.getD_some, true_iff]
      have := h8 i (List.mem_range.2 hi)
      simpa using this
    · exfalso
      simp [Array.getD_eq_getD_getElem?, Array.getElem?_replicate] at hk
      split at hk <;> simp at hk
  have := wpAny_of_ord2 (P := P) (S := S) (Q := Q) a1 a5 a6 c1 ord1.length ord1 ord2 (Array.replicate l.length false) a w.drew rfl (by omega) (inv0 _ a3 a4 a8) (inv0 _ b3 b4 b8) a7 b7 (keepEx_of c2) c3 c4 h h2
  rw [a2] at this
  simpa using this
end
end Go.Mine
/-
  A region that draws its order, one of whose effects (an alloc of a box, say) may come up at any place among the others: walked as a tree.
-/
namespace Go.Mine
open Go Go.RowKit

/-- how an operation stands to the one that floats: 0: that need not come right ahead of it; 1: it may; 2: it waits for it -/
def flagOk (l : List Oper) (cl : List (List Nat)) (f : Nat × Nat) : (Nat × Nat) × Nat → Bool
  | (x, 0) => !(cl.getD x.2 []).contains f.2 && ((cl.getD f.2 []).contains x.2 || (decide (x.1 ≤ 1) && pairOk l cl x f)) && (x.1 != 0 || pairOk l cl f x)
  | (x, 1) => !(cl.getD x.2 []).contains f.2 && decide (2 ≤ x.1)
  | (x, _) => (cl.getD x.2 []).contains f.2
def flagsOk (l : List Oper) (cl : List (List Nat)) (f : Nat × Nat) : List ((Nat × Nat) × Nat) → Bool
  | [] => true
  | x :: r => flagOk l cl f x && (decide (x.2 < 2) || r.all fun y => decide (2 ≤ y.2)) && flagsOk l cl f r
def ordOkF (l : List Oper) (f : Nat × Nat) (fl : List ((Nat × Nat) × Nat)) : Bool :=
  Region.noSelect l.toArray && ((f :: fl.map (·.1)).length == l.length) && (List.range l.length).all (fun i => ((f :: fl.map (·.1)).map (·.2)).contains i) && (f :: fl.map (·.1)).all (fun x => decide (x.2 < l.length)) && decide (((f :: fl.map (·.1)).map (·.2)).Nodup) &&
    closureOk l (closure l) && edgesBack l && pairsOk l (closure l) (fl.map (·.1)) && flagsOk l (closure l) f fl

section
variable {P : Program} {l : List Oper} {S : World → Prop} {Q : Exit → Act → World → Prop} {f : Nat × Nat}
def wpF (P : Program) (l : List Oper) (S : World → Prop) (Q : Exit → Act → World → Prop) (f : Nat × Nat) : List ((Nat × Nat) × Nat) → Act → World → Prop
  | [], a, w => wpOrd P l S Q [f] a w
  | (x, 0) :: r, a, w => OrdStep P l S Q x (wpF P l S Q f r) a w
  | (x, 1) :: r, a, w => wpOrd P l S Q (f :: x :: r.map (·.1)) a w ∧ OrdStep P l S Q x (wpF P l S Q f r) a w
  | (x, _) :: r, a, w => wpOrd P l S Q (f :: x :: r.map (·.1)) a w
theorem OrdStep.both {x : Nat × Nat} {o : Oper} (ho : l[x.2]? = some o) (hx : x.1 ≤ 1) {K K' : Act → World → Prop} {a : Act} {w : World} (h : OrdStep P l S Q x K a w) (h' : OrdStep P l S Q x K' a w) : OrdStep P l S Q x (fun a w => K a w ∧ K' a w) a w := by
  rcases h.cases ho with ⟨v, hv, h1⟩ | ⟨_, h2, _⟩
  · rcases h'.cases ho with ⟨u, hu, h3⟩ | ⟨_, h2, _⟩
    · obtain rfl := hv.uniq hu
      exact hv.step ho ⟨h1, h3⟩
    · omega
  · omega
theorem flagsOk_app {cl : List (List Nat)} : ∀ (pre : List ((Nat × Nat) × Nat)) {y : (Nat × Nat) × Nat} {post : List ((Nat × Nat) × Nat)}, flagsOk l cl f (pre ++ y :: post) = true →
    flagsOk l cl f (pre ++ post) = true ∧ flagOk l cl f y = true ∧ (y.2 < 2 → ∀ x ∈ pre, x.2 < 2) ∧ ∀ x ∈ pre, flagOk l cl f x = true
  | [], y, post, h => by
    simp only [List.nil_append, flagsOk, Bool.and_eq_true] at h
    exact ⟨h.2, h.1.1, by simp, by simp⟩
  | x :: pre, y, post, h => by
    simp only [List.cons_append, flagsOk, Bool.and_eq_true, Bool.or_eq_true, decide_eq_true_eq, List.all_eq_true] at h
    obtain ⟨⟨h1, h2⟩, h3⟩ := h
    obtain ⟨k1, k2, k3, k4⟩ := flagsOk_app pre h3
    refine ⟨?_, k2, fun hy z hz => ?_, fun z hz => ?_⟩
    · simp only [List.cons_append, flagsOk, Bool.and_eq_true, Bool.or_eq_true, decide_eq_true_eq, List.all_eq_true]
      exact ⟨⟨h1, h2.imp id fun g z hz => g z (by rcases List.mem_append.1 hz with h | h <;> simp [h])⟩, k1⟩
    · rcases List.mem_cons.1 hz with rfl | hz
      · rcases h2 with h2 | h2
        · exact h2
        · have := h2 y (by simp); omega
      · exact k3 hy z hz
    · rcases List.mem_cons.1 hz with rfl | hz
      · exact h1
      · exact k4 z hz
theorem pairOk_apart {cl : List (List Nat)} {x y : Nat × Nat} {ox oy : Oper} (hx : l[x.2]? = some ox) (hy : l[y.2]? = some oy) (h : pairOk l cl x y = true) (hn : ¬ x.2 ∈ cl.getD y.2 []) : okPair x.1 y.1 = true ∧ ox.apart l.toArray oy = true := by
  simp only [pairOk, Bool.or_eq_true, Bool.and_eq_true, List.contains_iff_mem, hx, hy] at h
  rcases h with h | ⟨h1, h2, _⟩
  · exact absurd h hn
  · exact ⟨h1, h2⟩
/-- the floating one is taken now -/
theorem wpF.now (hsel : Region.noSelect l.toArray = true) {cl : List (List Nat)} {of : Oper} (hf : l[f.2]? = some of) : ∀ (fl : List ((Nat × Nat) × Nat)) (a : Act) (w : World),
    flagsOk l cl f fl = true → (∀ x ∈ fl, x.1.2 < l.length ∧ ¬ x.1.2 ∈ cl.getD f.2 []) → wpF P l S Q f fl a w → OrdStep P l S Q f (wpOrd P l S Q (fl.map (·.1))) a w
  | [], a, w, _, _, h => h
  | (x, 0) :: r, a, w, hk, hx, h => by
    simp only [flagsOk, flagOk, Bool.and_eq_true, Bool.or_eq_true, decide_eq_true_eq, List.contains_iff_mem] at hk
    obtain ⟨hlt, hnm⟩ := hx (x, 0) (by simp)
    have hox : l[x.2]? = some l[x.2] := by simp [hlt]
    have hp : pairOk l cl x f = true := by
      rcases hk.1.1.1.2 with h | h
      · exact absurd h hnm
      · exact h.2
    obtain ⟨h1, h2⟩ := pairOk_apart hox hf hp hnm
    exact OrdStep.swap hsel h1 hox hf h2 (OrdStep.mono (show OrdStep P l S Q x (wpF P l S Q f r) a w from h) (fun a w hh => wpF.now hsel hf r a w hk.2 (fun y hy => hx y (by simp [hy])) hh))
  | (x, 1) :: r, a, w, _, _, h => h.1
  | (x, n + 2) :: r, a, w, _, _, h => h
/-- another one is taken now -/
theorem wpF.front (hsel : Region.noSelect l.toArray = true) {cl : List (List Nat)} {of oy : Oper} (hf : l[f.2]? = some of) {y : Nat × Nat} {b : Nat} {post : List ((Nat × Nat) × Nat)} (hy : l[y.2]? = some oy) (hb : b < 2) (hfy : y.1 = 0 → okPair f.1 y.1 = true ∧ of.apart l.toArray oy = true) : ∀ (pre : List ((Nat × Nat) × Nat)) (a : Act) (w : World),
    (∀ x ∈ pre, x.2 < 2 ∧ flagOk l cl f x = true ∧ okPair x.1.1 y.1 = true ∧ ∃ ox, l[x.1.2]? = some ox ∧ ox.apart l.toArray oy = true) →
    wpF P l S Q f (pre ++ (y, b) :: post) a w → OrdStep P l S Q y (wpF P l S Q f (pre ++ post)) a w
  | [], a, w, _, h => by
    rcases b with _ | _ | b
    · exact h
    · exact h.2
    · omega
  | (x, 0) :: pre, a, w, hp, h => by
    obtain ⟨_, _, h1, ox, h2, h3⟩ := hp (x, 0) (by simp)
    exact OrdStep.swap hsel h1 h2 hy h3 (OrdStep.mono (show OrdStep P l S Q x (wpF P l S Q f (pre ++ (y, b) :: post)) a w from h) (fun a w hh => wpF.front hsel hf hy hb hfy pre a w (fun z hz => hp z (by simp [hz])) hh))
  | (x, 1) :: pre, a, w, hp, h => by
    obtain ⟨_, h0, h1, ox, h2, h3⟩ := hp (x, 1) (by simp)
    simp only [flagOk, Bool.and_eq_true, decide_eq_true_eq] at h0
    have hy0 : y.1 = 0 := okPair_eff h1 h0.2
    obtain ⟨hA, hB⟩ := h
    have hB2 := OrdStep.swap hsel h1 h2 hy h3 (OrdStep.mono (show OrdStep P l S Q x (wpF P l S Q f (pre ++ (y, b) :: post)) a w from hB) (fun a w hh => wpF.front hsel hf hy hb hfy pre a w (fun z hz => hp z (by simp [hz])) hh))
    have hA2 : OrdStep P l S Q y (wpOrd P l S Q (f :: x :: (pre ++ post).map (·.1))) a w := by
      have e1 : (pre ++ (y, b) :: post).map (·.1) = pre.map (·.1) ++ y :: post.map (·.1) := by simp
      have e2 : (pre ++ post).map (·.1) = pre.map (·.1) ++ post.map (·.1) := by simp
      rw [e2]
      refine wpOrd.front (post := post.map (·.1)) hsel (f :: x :: pre.map (·.1)) (fun z hz => ?_) a w ?_
      · rcases List.mem_cons.1 hz with rfl | hz
        · exact ⟨(hfy hy0).1, of, oy, hf, hy, (hfy hy0).2⟩
        · rcases List.mem_cons.1 hz with rfl | hz
          · exact ⟨h1, ox, oy, h2, hy, h3⟩
          · obtain ⟨q, hq, rfl⟩ := List.mem_map.1 hz
            obtain ⟨_, _, k1, oq, k2, k3⟩ := hp q (by simp [hq])
            exact ⟨k1, oq, oy, k2, hy, k3⟩
      · show wpOrd P l S Q (f :: x :: (pre.map (·.1) ++ y :: post.map (·.1))) a w
        rw [← e1]; exact hA
    exact OrdStep.both hy (by omega) hA2 hB2
  | (x, n + 2) :: pre, a, w, hp, h => by
    have := (hp (x, n + 2) (by simp)).1
    omega

theorem closure_out (hcl : closureOk l (closure l) = true) {r : List (Nat × Nat)} {listed : Array Bool} (inv : OrdInv0 l r listed) {i : Nat} {o : Oper} (hlt : i < l.length) (hol : l[i]? = some o) (hall : ∀ e ∈ o.after, Region.binds .any e = true → listed.getD e.on false = true) {x : Nat × Nat} (hx : x ∈ r) : ¬ x.2 ∈ (closure l).getD i [] := by
  intro hh
  have hl := closure_listed hcl inv.down i o hlt hol hall x.2 hh
  have hxl := inv.lt x hx
  have := (inv.left x.2 hxl).2 (List.mem_map.2 ⟨x, hx, rfl⟩)
  rw [getD_bool (by rw [inv.size]; exact hxl) true false, hl] at this
  cases this
theorem wpAny_of_F (hsel : Region.noSelect l.toArray = true) (hcl : closureOk l (closure l) = true) (hback : edgesBack l = true) : ∀ (m : Nat) (fl : List ((Nat × Nat) × Nat)) (listed : Array Bool) (a : Act) (w : World),
    fl.length + 1 = m → OrdInv0 l (f :: fl.map (·.1)) listed → pairsOk l (closure l) (fl.map (·.1)) = true → flagsOk l (closure l) f fl = true → wpF P l S Q f fl a w → wpAny P .any l.toArray (Strict Q) m listed a w
  | 0, fl, listed, a, w, hm, _, _, _, _ => by omega
  | m + 1, fl, listed, a, w, hm, inv, hpairs, hflags, h => by
    refine ⟨fun h0 => ?_, fun i hi => ?_⟩
    · exfalso
      obtain ⟨i, hi, hmin⟩ := exists_min ((f :: fl.map (·.1)).map (·.2)) (by simp)
      obtain ⟨x, hx, rfl⟩ := List.mem_map.1 hi
      have hlt := inv.lt x hx
      have : x.2 ∈ Region.ready .any l.toArray listed := by
        refine mem_ready.2 ⟨(inv.left _ hlt).2 hi, l[x.2], by simp [hlt], fun e he hb => ?_⟩
        simp only [edgesBack, List.all_eq_true, List.mem_range] at hback
        have hb2 := hback x.2 hlt
        rw [List.getElem?_eq_getElem hlt] at hb2
        simp only [List.all_eq_true, Bool.or_eq_true, Bool.not_eq_true', decide_eq_true_eq] at hb2
        have hlt2 : e.on < x.2 := by
          rcases hb2 e (by simpa using he) with h | h
          · rw [hb] at h; cases h
          · exact h
        have hn : ¬ e.on ∈ (f :: fl.map (·.1)).map (·.2) := fun hh => by have := hmin _ hh; omega
        have := mt (inv.left e.on (by omega)).1 hn
        rw [getD_bool (by rw [inv.size]; omega) false true]
        simpa using this
      rw [h0] at this; cases this
    · obtain ⟨h1, o, ho, hall⟩ := mem_ready.1 hi
      have hlt : i < l.length := by
        have := (Array.getElem?_eq_some_iff.1 ho).1; simpa using this
      have hol : l[i]? = some o := by simpa using ho
      obtain ⟨y, hy, rfl⟩ := List.mem_map.1 ((inv.left i hlt).1 h1)
      have hout : ∀ x ∈ f :: fl.map (·.1), ¬ x.2 ∈ (closure l).getD y.2 [] := fun x hx => closure_out hcl inv hlt hol hall hx
      rcases List.mem_cons.1 hy with rfl | hy
      · refine wpOp_mono (fun a' w' h' => ?_) ((wpF.now hsel hol fl a w hflags (fun x hx => ⟨inv.lt x.1 (by simp; exact .inr ⟨x.2, hx⟩), hout x.1 (by simp; exact .inr ⟨x.2, hx⟩)⟩) h).wpOp)
        have inv2 : OrdInv0 l (fl.map (·.1)) (listed.setIfInBounds y.2 true) := OrdInv0.next (pre := []) inv hol hall
        exact wpAny_of_ord hsel hcl hback m (fl.map (·.1)) _ _ _ (by simpa using hm) ⟨inv2.size, inv2.lt, inv2.nodup, inv2.left, inv2.down, hpairs⟩ h'
      · obtain ⟨⟨y', b⟩, hq, rfl⟩ := List.mem_map.1 hy
        obtain ⟨pre, post, rfl⟩ := List.append_of_mem hq
        simp only at hol hall hout hlt
        have em : (pre ++ (y', b) :: post).map (·.1) = pre.map (·.1) ++ y' :: post.map (·.1) := by simp
        rw [em] at hpairs
        obtain ⟨hp1, hp2⟩ := pairsOk_app (pre.map (·.1)) hpairs
        obtain ⟨k1, k2, k3, k4⟩ := flagsOk_app pre hflags
        have hfn : ¬ f.2 ∈ (closure l).getD y'.2 [] := hout f (by simp)
        have hb : b < 2 := by
          rcases b with _ | _ | b
          · omega
          · omega
          · simp only [flagOk, List.contains_iff_mem] at k2
            exact absurd k2 hfn
        have hflt := inv.lt f (by simp)
        have hf : l[f.2]? = some l[f.2] := by simp [hflt]
        have hfy : y'.1 = 0 → okPair f.1 y'.1 = true ∧ (l[f.2]).apart l.toArray o = true := by
          intro h0
          rcases b with _ | _ | b
          · simp only [flagOk, Bool.and_eq_true, Bool.or_eq_true, bne_iff_ne] at k2
            rcases k2.2 with k | k
            · exact absurd h0 k
            · exact pairOk_apart hf hol k hfn
          · simp only [flagOk, Bool.and_eq_true, decide_eq_true_eq] at k2
            omega
          · omega
        have hpre : ∀ x ∈ pre, x.2 < 2 ∧ flagOk l (closure l) f x = true ∧ okPair x.1.1 y'.1 = true ∧ ∃ ox, l[x.1.2]? = some ox ∧ ox.apart l.toArray o = true := by
          intro x hx
          have hxm : x.1 ∈ f :: (pre ++ (y', b) :: post).map (·.1) := List.mem_cons_of_mem _ (List.mem_map.2 ⟨x, by simp [hx], rfl⟩)
          have hxl := inv.lt x.1 hxm
          have hox : l[x.1.2]? = some l[x.1.2] := by simp [hxl]
          obtain ⟨h2, h3⟩ := pairOk_apart hox hol (hp2 x.1 (List.mem_map.2 ⟨x, hx, rfl⟩)) (hout x.1 hxm)
          exact ⟨k3 hb x hx, k4 x hx, h2, _, hox, h3⟩
        refine wpOp_mono (fun a' w' h' => ?_) ((wpF.front hsel hf hol hb hfy pre a w hpre h).wpOp)
        have inv1 : OrdInv0 l ((f :: pre.map (·.1)) ++ y' :: post.map (·.1)) listed := by
          have := inv
          rw [em] at this; exact this
        have inv2 := OrdInv0.next inv1 hol hall
        have e2 : f :: (pre ++ post).map (·.1) = (f :: pre.map (·.1)) ++ post.map (·.1) := by simp
        exact wpAny_of_F hsel hcl hback m (pre ++ post) _ _ _ (by simp at hm ⊢; omega) (by rw [e2]; exact inv2) (by rw [List.map_append]; exact hp1) k1 h'

/-- A REGION THAT DRAWS ITS ORDER, one effect of which floats -/
theorem wp_region_ordF {id : Nat} {a : Act} {w : World} (S : World → Prop) (f : Nat × Nat) (fl : List ((Nat × Nat) × Nat)) (hm : P.follows .mixedOrders = true) (hB : ordOkF l f fl = true)
    (h : wpF P l S Q f fl a w.drew) : (Code.region id l.toArray true).wp P Q a w := by
  simp only [ordOkF, Bool.and_eq_true, beq_iff_eq, List.all_eq_true, decide_eq_true_eq] at hB
  obtain ⟨⟨⟨⟨⟨⟨⟨⟨h1, h2⟩, h8⟩, h3⟩, h4⟩, h5⟩, h6⟩, h7⟩, h9⟩ := hB
  refine Code.wp_mono Strict.imp (wp_region_any hm ?_)
  have := wpAny_of_F (P := P) (S := S) (Q := Q) h1 h5 h6 (fl.length + 1) fl (Array.replicate l.length false) a w.drew rfl ⟨by simp, h3, h4, fun i hi => ?_, fun k o hk => ?_⟩ h7 h9 h
  · have e : fl.length + 1 = l.toArray.size := by simpa using h2
    rw [e] at this; simpa using this
  · simp only [Array.getD_eq_getD_getElem?, Array.getElem?_replicate, hi, if_true, Option.getD_some, true_iff]
    have := h8 i (List.mem_range.2 hi)
    simpa using this
  · exfalso
    simp [Array.getD_eq_getD_getElem?, Array.getElem?_replicate] at hk
    split at hk <;> simp at hk

variable {i k : Nat} {r : List ((Nat × Nat) × Nat)} {o : Oper} {a : Act} {w : World}
theorem ordF_pure (ho : l[i]? = some o) (hw : Region.wanted o (yielded l.toArray a.tmps) = true) (hc : valueOnly o.op = true)
    (h : ∀ K : Act → Prop, (∀ a, wpF P l S Q f r a w → K a) → o.quiet P a (fun _ => True) K) : wpF P l S Q f (((0, i), 0) :: r) a w := by
  obtain ⟨v, h1, h2⟩ := quiet_val hc (h _ (fun _ h => h))
  exact ⟨o, ho, .inr ⟨hw, v, fun w' => h1 w' trivial, h2⟩⟩
theorem ordF_held (ho : l[i]? = some o) (hw : Region.wanted o (yielded l.toArray a.tmps) = true) (hc : valueOnly o.op = true) (hS : S w)
    (h : ∀ K : Act → Prop, (∀ a, wpF P l S Q f r a w → K a) → o.quiet P a S K) : wpF P l S Q f (((1, i), 0) :: r) a w := by
  obtain ⟨v, h1, h2⟩ := quiet_val hc (h _ (fun _ h => h))
  exact ⟨o, ho, .inr ⟨hw, hS, v, h1, h2⟩⟩
theorem ordF_skip (ho : l[i]? = some o) (hw : Region.wanted o (yielded l.toArray a.tmps) = false)
    (h : wpF P l S Q f r (a.put o.dst undef) w) : wpF P l S Q f (((k, i), 0) :: r) a w := ⟨o, ho, .inl ⟨hw, h⟩⟩
theorem ordF_keep (ho : l[i]? = some o) (hw : Region.wanted o (yielded l.toArray a.tmps) = true) (hS : S w)
    (h : ∀ K : Act → World → Prop, (∀ a w, S w → wpF P l S Q f r a w → K a w) → o.wp P a w K (Strict Q)) : wpF P l S Q f (((2, i), 0) :: r) a w :=
  ⟨o, ho, .inr ⟨hw, hS, h _ (fun _ _ hs h => ⟨hs, h⟩)⟩⟩
theorem ordF_drop (ho : l[i]? = some o) (hw : Region.wanted o (yielded l.toArray a.tmps) = true)
    (h : ∀ K : Act → World → Prop, (∀ a w, wpF P l S Q f r a w → K a w) → o.wp P a w K (Strict Q)) : wpF P l S Q f (((3, i), 0) :: r) a w :=
  ⟨o, ho, .inr ⟨hw, h _ (fun _ _ h => h)⟩⟩
/-- the floating one may come right now, or behind this one -/
theorem ordF_either {x : Nat × Nat} (h1 : wpOrd P l S Q (f :: x :: r.map (·.1)) a w) (h2 : wpF P l S Q f ((x, 0) :: r) a w) : wpF P l S Q f ((x, 1) :: r) a w := ⟨h1, h2⟩
theorem ordF_now {x : Nat × Nat} (h : wpOrd P l S Q (f :: x :: r.map (·.1)) a w) : wpF P l S Q f ((x, 2) :: r) a w := h
theorem ordF_nil (h : wpOrd P l S Q [f] a w) : wpF P l S Q f [] a w := h
end
end Go.Mine
