/-
  Base: what any walk of ours says of worlds: 'Mod S w w'': of the blocks that were there only those in S have turned.
-/
import Derived.WalkKit
import Derived.WalkSpells
import Derived.BigQuiet
import Derived.Lib.Hide
import Derived.Lib.Strings
import Derived.Deep.AppendSrc
namespace Go.Mine
open Go Go.RowKit
theorem Hi {p : Prop} (h : p) : RowKit.Hid p := h
structure Mod (S : Nat → Prop) (w w' : World) : Prop where
 os : w'.os = w.os
 tape : w'.tape = w.tape
 output : w'.output = w.output
 size : w.heap.size ≤ w'.heap.size
 block : ∀ k, k < w.heap.size → ¬ S k → w'.heap[k]? = w.heap[k]?
section
variable {S : Nat → Prop} {a b w w' : World}
theorem Mod.refl (S : Nat → Prop) (w : World) : Mod S w w := ⟨rfl, rfl, rfl, Nat.le_refl _, fun _ _ _ => rfl⟩
theorem Mod.trans (h : Mod S a b) (k : Mod S b w) : Mod S a w :=
 ⟨k.os.trans h.os, k.tape.trans h.tape, k.output.trans h.output, Nat.le_trans h.size k.size,
  fun i hi hs => (k.block i (Nat.lt_of_lt_of_le hi h.size) hs).trans (h.block i hi hs)⟩
theorem Mod.mono {T : Nat → Prop} (h : Mod S w w') (hs : ∀ k, k < w.heap.size → S k → T k) : Mod T w w' :=
 ⟨h.os, h.tape, h.output, h.size, fun k hk ht => h.block k hk (fun s => ht (hs k hk s))⟩
theorem Mod.step {T : Nat → Prop} (h : Mod S a w) (k : Mod T w w') (ht : ∀ i, i < a.heap.size → T i → S i) : Mod S a w' :=
 ⟨k.os.trans h.os, k.tape.trans h.tape, k.output.trans h.output, Nat.le_trans h.size k.size,
  fun i hi hs => (k.block i (Nat.lt_of_lt_of_le hi h.size) (fun t => hs (ht i hi t))).trans (h.block i hi hs)⟩
theorem Mod.drew (h : Mod S a w) : Mod S a w.drew := ⟨h.os, h.tape, h.output, h.size, h.block⟩
theorem Mod.alloc (h : Mod S a w) (o : Obj) : Mod S a (w.alloc o) :=
 ⟨h.os, h.tape, h.output, by have := h.size; simp; omega, fun k hk hs => by
  rw [Below.heap_alloc _ _ _ (Nat.lt_of_lt_of_le hk h.size)]; exact h.block k hk hs⟩
theorem Mod.setCell (h : Mod S a w) {p : Addr} (hp : p.block < a.heap.size → S p.block) (u : Value) : Mod S a (w.setCell p u) :=
 ⟨h.os, h.tape, h.output, by have := h.size; simpa [World.setCell] using this, fun k hk hs => by
  rw [Below.heap_setCell _ _ _ _ (fun e => hs (by subst e; exact hp hk))]; exact h.block k hk hs⟩
theorem Mod.grown {row : Option Nat} (h : Mod S a w) (hg : w.grownBy w' row) (hr : ∀ k, row = some k → k < a.heap.size → S k) : Mod S a w' :=
 ⟨hg.os.trans h.os, hg.tape.trans h.tape, hg.output.trans h.output, Nat.le_trans h.size hg.size, fun k hk hs => by
  rw [hg.block k (Nat.lt_of_lt_of_le hk h.size) (fun e => hs (hr k e.symm hk))]; exact h.block k hk hs⟩
theorem Mod.cell {p : Addr} {v : Value} (h : Mod S w w') (hc : w.cell? p = some v) (hs : ¬ S p.block) : w'.cell? p = some v :=
 (World.cell?_of_block (h.block p.block (World.block_lt_of_cell? w p hc) hs)).trans hc
theorem Mod.below (h : Mod (fun _ => False) w w') : Below w.heap.size w w' := ⟨h.os, h.tape, h.output, h.size, fun k hk => h.block k hk id⟩
theorem Mod.ofBelow (h : Below w.heap.size w w') : Mod (fun _ => False) w w' := ⟨h.os, h.tape, h.output, h.size, fun k hk _ => h.block k hk⟩
end
def blk (a : Option Addr) : Option Nat := a.map Addr.block
@[simp] theorem blk_some (a : Addr) : blk (some a) = some a.block := rfl
@[simp] theorem blk_none : blk none = none := rfl
def Rd (w : World) (a : Option Addr) (xs : List Value) : Prop :=
 ∀ i u, xs[i]? = some u → ∃ b o, a = some ⟨b, o, none⟩ ∧ w.cell? ⟨b, o + i, none⟩ = some u
section
variable {w w' : World} {a : Option Addr} {xs : List Value}
theorem Rd.nil (w : World) (a : Option Addr) : Rd w a [] := fun i u h => by simp at h
theorem Rd.mod {S : Nat → Prop} (h : Rd w a xs) (m : Mod S w w') (hs : ∀ b, blk a = some b → ¬ S b) : Rd w' a xs := by
 intro i u hi
 obtain ⟨b, o, rfl, hc⟩ := h i u hi
 exact ⟨b, o, rfl, m.cell hc (by have := hs b rfl; exact this)⟩
theorem Rd.drew (h : Rd w a xs) : Rd w.drew a xs := h
theorem Rd.take (h : Rd w a xs) (n : Nat) : Rd w a (xs.take n) := by
 intro i u hi
 rw [List.getElem?_take] at hi
 split at hi
 ·exact h i u hi
 ·cases hi
theorem Rd.drop {b o : Nat} (h : Rd w (some ⟨b, o, none⟩) xs) (n : Nat) : Rd w (some ⟨b, o + n, none⟩) (xs.drop n) := by
 intro i u hi
 rw [List.getElem?_drop] at hi
 obtain ⟨b', o', e, hc⟩ := h (n + i) u hi
 cases e
 exact ⟨b, o + n, rfl, by rw [Nat.add_assoc]; exact hc⟩
theorem Rd.lt (h : Rd w a xs) (hx : xs ≠ []) : ∀ b, blk a = some b → b < w.heap.size := by
 intro b hb
 cases xs with
 | nil => exact absurd rfl hx
 | cons u xs =>
   obtain ⟨b', o, rfl, hc⟩ := h 0 u rfl
   simp at hb; subst hb
   exact World.block_lt_of_cell? w _ hc
theorem Rd.news (w : World) (us : List Value) (e : TypeId) {g : Nat} (hg : g = w.heap.size := by first | rfl | simp) : Rd (w.alloc (.cells us.toArray e)) (some ⟨g, 0, none⟩) us := by
 subst hg
 intro i x hi
 refine ⟨_, _, rfl, ?_⟩
 rw [cell_of_row _ w.heap.size _ us.toArray e (0, 0) (heap_alloc_new w _)]
 simpa using hi
theorem Rd.new (w : World) (u : Value) (e : TypeId) {g : Nat} (hg : g = w.heap.size := by first | rfl | simp) : Rd (w.alloc (.cells #[u] e)) (some ⟨g, 0, none⟩) [u] := Rd.news w [u] e hg
theorem Src.ofRd {P : Program} {k : Nat} {tx e' : TypeId} (hk : P.underlying tx = some (.slice e')) (n c : Nat) (h : Rd w a xs) (hl : xs.length = n * k)
 (h1 : ∀ u ∈ xs, u.oneCell' = true) : Src P k tx (.slice a n c) n xs w := by
 cases a with
 | none =>
   have hx : xs = [] := by
    cases xs with
    | nil => rfl
    | cons u xs => obtain ⟨b, o, e, _⟩ := h 0 u rfl; cases e
   subst hx
   exact ⟨.inl ⟨e', hk⟩, fun _ => rfl, run_firstCells_none w k n n c, run_firstCells_none w.drew k n n c, hl, h1⟩
 | some ad =>
   refine Src.ofSlice w hk ad n c xs hl (fun j u hu => ?_) h1
   obtain ⟨b, o, e, hc⟩ := h j u hu
   cases e
   have : (⟨b, o, none⟩ : Addr).add j = ⟨b, o + j, none⟩ := by unfold Addr.add; split <;> simp_all
   rw [this]; exact hc
end
def Own (w : World) (e : TypeId) (k : Nat) (a : Option Addr) (n c : Nat) (xs : List Value) : Prop :=
 xs.length = n * k ∧ ((a = none ∧ n = 0 ∧ c = 0) ∨
  ∃ b cur, a = some ⟨b, 0, none⟩ ∧ w.heap[b]? = some (.cells cur e (0, 0)) ∧ n ≤ c ∧ c ≤ maxLen ∧ cur.size = c * k ∧ cur.toList.take (n * k) = xs)
section
variable {w w' : World} {e : TypeId} {k : Nat} {a : Option Addr} {n c : Nat} {xs : List Value}
theorem Own.nil (w : World) (e : TypeId) (k : Nat) : Own w e k none 0 0 [] := ⟨by simp, .inl ⟨rfl, rfl, rfl⟩⟩
theorem Own.mod {S : Nat → Prop} (h : Own w e k a n c xs) (m : Mod S w w') (hs : ∀ b, blk a = some b → ¬ S b) : Own w' e k a n c xs := by
 refine ⟨h.1, ?_⟩
 rcases h.2 with hn | ⟨b, cur, rfl, hg, rest⟩
 ·exact .inl hn
 ·exact .inr ⟨b, cur, rfl, by rw [m.block b (Array.getElem?_eq_some_iff.1 hg).1 (hs b rfl)]; exact hg, rest⟩
theorem Own.atHead (h : Own w e k a n c xs) (hn : n ≠ 0) : ∃ b, a = some ⟨b, 0, none⟩ := by
 rcases h.2 with ⟨_, h0, _⟩ | ⟨b, _, rfl, _⟩
 ·exact absurd h0 hn
 ·exact ⟨b, rfl⟩
theorem Own.drew (h : Own w e k a n c xs) : Own w.drew e k a n c xs := h
theorem Own.alloc (h : Own w e k a n c xs) (o : Obj) : Own (w.alloc o) e k a n c xs := h.mod ((Mod.refl (fun _ => False) w).alloc o) (fun _ _ h => h)
theorem Own.lt (h : Own w e k a n c xs) : ∀ b, blk a = some b → b < w.heap.size := by
 intro b hb
 rcases h.2 with ⟨rfl, _⟩ | ⟨b', cur, rfl, hg, _⟩
 ·simp at hb
 ·simp at hb; subst hb; exact (Array.getElem?_eq_some_iff.1 hg).1
theorem Own.rd (h : Own w e k a n c xs) : Rd w a xs := by
 intro i u hu
 rcases h.2 with ⟨rfl, rfl, _⟩ | ⟨b, cur, rfl, hg, _, _, _, htake⟩
 ·have := h.1; simp at this; subst this; simp at hu
 ·refine ⟨b, 0, rfl, ?_⟩
  rw [Nat.zero_add, cell_of_row w b i cur e (0, 0) hg]
  rw [← htake, List.getElem?_take] at hu
  split at hu
  ·simpa using hu
  ·cases hu
theorem Own.made (w : World) (e : TypeId) (k : Nat) (cur : Array Value) (n c : Nat) (hn : n ≤ c) (hc : c ≤ maxLen) (hs : cur.size = c * k) :
 Own (w.alloc (.cells cur e)) e k (some ⟨w.heap.size, 0, none⟩) n c (cur.toList.take (n * k)) := by
 refine ⟨?_, .inr ⟨_, cur, rfl, heap_alloc_new w _, hn, hc, hs, rfl⟩⟩
 rw [List.length_take, Array.length_toList, hs]
 exact Nat.min_eq_left (Nat.mul_le_mul_right _ hn)
theorem Own.frozen (h : Own w e k a n c xs) {b o : Nat} (hb : blk a = some b) : w.frozen? ⟨b, o, none⟩ = false := by
 rcases h.2 with ⟨rfl, _⟩ | ⟨b', cur, rfl, hg, _⟩
 ·simp at hb
 ·simp at hb; subst hb; simp [World.frozen?, hg]
theorem Own.store {b : Nat} (h : Own w e k (some ⟨b, 0, none⟩) n c xs) (j : Nat) (u : Value) : Own (w.setCell ⟨b, j, none⟩ u) e k (some ⟨b, 0, none⟩) n c (xs.set j u) := by
 refine ⟨by rw [List.length_set]; exact h.1, ?_⟩
 rcases h.2 with ⟨h0, _⟩ | ⟨b', cur, h0, hg, hn, hc, hs, ht⟩
 ·cases h0
 ·cases h0
  refine .inr ⟨b, cur.setIfInBounds j u, rfl, ?_, hn, hc, by simpa using hs, ?_⟩
  ·simp [World.setCell, Array.getElem?_modify, hg]
  ·rw [Array.toList_setIfInBounds, List.take_set, ht]
end
theorem heap_setCell_at {w : World} {p j : Nat} {cs : Array Value} {t : TypeId} {fz : Nat × Nat} (u : Value) (h : w.heap[p]? = some (.cells cs t fz)) : (w.setCell ⟨p, j, none⟩ u).heap[p]? = some (.cells (cs.setIfInBounds j u) t fz) := by
 simp [World.setCell, Array.getElem?_modify, h]
theorem cell_at {w : World} {p j : Nat} {cs : Array Value} {t : TypeId} {fz : Nat × Nat} {u : Value} (h : w.heap[p]? = some (.cells cs t fz)) (hu : cs[j]? = some u) : w.cell? ⟨p, j, none⟩ = some u := by
 rw [cell_of_row w p j _ t fz h]; exact hu
theorem frozen_at {w : World} {p j : Nat} {cs : Array Value} {t : TypeId} (h : w.heap[p]? = some (.cells cs t (0, 0))) : w.frozen? ⟨p, j, none⟩ = false := by
 simp [World.frozen?, h]
theorem Mod.at {S : Nat → Prop} {w w' : World} {p : Nat} {o : Obj} (m : Mod S w w') (h : w.heap[p]? = some o) (hs : ¬ S p) : w'.heap[p]? = some o := by
 rw [m.block p (Array.getElem?_eq_some_iff.1 h).1 hs]; exact h
theorem cell_new {w : World} {cs : Array Value} {e : TypeId} {g j : Nat} {u : Value} (hu : cs[j]? = some u) (hg : g = w.heap.size := by first | rfl | simp) : (w.alloc (.cells cs e)).cell? ⟨g, j, none⟩ = some u := by
 subst hg; exact cell_at (heap_alloc_new w _) hu
theorem cell_old {w : World} {o : Obj} {p : Addr} {u : Value} (h : w.cell? p = some u) : (w.alloc o).cell? p = some u := ((Mod.refl (fun _ => False) w).alloc o).cell h id
structure TI (P : Program) (t e : TypeId) (k bytes : Nat) : Prop where
 ht : P.underlying t = some (.slice e)
 pos : 0 < k
 ex : ∃ i z, P.info? e = some i ∧ i.zero = some z ∧ i.size = k ∧ i.bytes = bytes ∧ z.cells.size = k
theorem TI.mk' {P : Program} {t e : TypeId} {z : Value} {k bytes : Nat} (ht : P.underlying t = some (.slice e)) (h : (P.info? e).map (fun i => (i.zero, i.size, i.bytes)) = some (some z, k, bytes)) (hz : z.cells.size = k) (hp : 0 < k) : TI P t e k bytes := by
 obtain ⟨i, h1, h2, h3, h4⟩ := info_parts h
 exact ⟨ht, hp, i, z, h1, h2, h3, h4, hz⟩
section
variable {P : Program} {w : World}
theorem run_append_mine {t tx ty e : TypeId} {k bytes : Nat} (ti : TI P t e k bytes) {a : Option Addr} {n c : Nat} {xs : List Value} (h : Own w e k a n c xs)
 {x : Value} {m : Nat} {news : List Value} (hs : Src P k tx x m news w) (hb : (n + m) * bytes ≤ 140737488355328) (h63 : n + m ≤ maxLen) :
 ∃ a' c' w', (Builtin.append_ #[t, tx] ty #[.slice a n c, x]).run P w = .ok (.slice a' (n + m) c') w' ∧ Own w' e k a' (n + m) c' (xs ++ news) ∧
  Mod (fun b => blk a = some b) w w' ∧ (blk a' = blk a ∨ ∃ b, blk a' = some b ∧ w.heap.size ≤ b) ∧ (a' = none → n + m = 0) := by
 obtain ⟨i, z, hi, hz, rfl, rfl, hzs⟩ := ti.ex
 have hlen : (xs ++ news).length = (n + m) * i.size := by rw [List.length_append, h.1, hs.newsLen, Nat.add_mul]
 have hnew : n + m ≤ 9223372036854775807 := by unfold maxLen at h63; omega
 rcases h.2 with ⟨rfl, rfl, rfl⟩ | ⟨b, cur, rfl, hg, hnc, hcm, hcs, htake⟩
 ·have hx : xs = [] := List.eq_nil_of_length_eq_zero (by simpa using h.1)
  subst hx
  by_cases hm : m = 0
  ·subst hm
   have hn : news = [] := List.eq_nil_of_length_eq_zero (by simpa using hs.newsLen)
   subst hn
   refine ⟨none, 0, w, ?_, Own.nil w e i.size, Mod.refl _ w, .inl rfl, fun _ => rfl⟩
   rcases hs.kind with ⟨e', hk⟩ | hk <;>
    simp [Builtin.append_, run_underlying ti.ht, run_underlying hk, sizeOf, typeInfo, hi, hs.len, hs.cells]
  ·have hold : (Builtin.firstCells i.size 0 (.slice none 0 0)).run P w.drew = .ok ([] : List Value).toArray w.drew := run_firstCells_none w.drew i.size 0 0 0
   have hr := run_append_grow_src (P := P) w t tx ty e i z ti.ht hi hz none 0 0 [] hold x m news hs (by omega) (by omega) (growslice_fits (by omega) hb)
   have hge := grownCap_ge w (0 + m) 0 e
   have hcm : grownCap w (0 + m) 0 e ≤ maxLen := grownCap_le_maxLen w (0 + m) 0 e h63
   refine ⟨_, _, _, hr, ⟨hlen, .inr ⟨w.heap.size, _, rfl, heap_alloc_new w.drew _, hge, hcm, ?_, ?_⟩⟩, (Mod.refl _ w).drew.alloc _, .inr ⟨w.heap.size, rfl, Nat.le_refl _⟩, fun hh => by cases hh⟩
   ·simp only [Array.size_append, List.size_toArray, size_zeroCells, hzs, hlen, ← Nat.add_mul]
    congr 1
    omega
   ·simp only [Array.toList_append]
    rw [← hlen]
    exact List.take_left
 ·by_cases hroom : n + m ≤ c
  ·have hfit : n * i.size + news.length ≤ cur.size := by rw [hs.newsLen, hcs, ← Nat.add_mul]; exact Nat.mul_le_mul_right _ hroom
   have hcell : ∀ j, j < news.length → (w.cell? ⟨b, 0 + n * i.size + j, none⟩).isSome = true := by
    intro j hj
    rw [cell_of_row w b _ cur e (0, 0) hg, Array.getElem?_eq_getElem (by omega)]; rfl
   have hfz : ∀ j, j < news.length → w.frozen? ⟨b, 0 + n * i.size + j, none⟩ = false := fun j _ => by simp [World.frozen?, hg]
   have hst := run_storeCells_at P b (n * i.size) e news 0 cur w hg (by simpa using hfit) hs.one
   simp only [Nat.add_zero] at hst
   have hr : (Builtin.append_ #[t, tx] ty #[.slice (some ⟨b, 0, none⟩) n c, x]).run P w = .ok (.slice (some ⟨b, 0, none⟩) (n + m) c) (w.setRow b (cur.toList.take (n * i.size) ++ news ++ cur.toList.drop (n * i.size + news.length)).toArray) := by
    rcases hs.kind with ⟨e', hk⟩ | hk <;>
     simp [Builtin.append_, run_underlying ti.ht, run_underlying hk, sizeOf, typeInfo, hi, hs.len, hroom, hs.cells, Addr.add_lit, hst]
   refine ⟨_, _, _, hr, ⟨hlen, .inr ⟨b, _, rfl, setRow_heap w b cur _ e _ hg, hroom, hcm, ?_, ?_⟩⟩, ⟨rfl, rfl, rfl, by simp, fun q _ hq => setRow_other w b q _ (fun e => hq (by simp [e]))⟩, .inl rfl, fun hh => by cases hh⟩
   ·simp only [List.size_toArray, List.length_append, List.length_take, List.length_drop, Array.length_toList]
    omega
   ·rw [htake, ← hlen]
    exact List.take_left
  ·have holds : ∀ j u, xs[j]? = some u → w.drew.cell? ((⟨b, 0, none⟩ : Addr).add j) = some u := fun j u hu => by
    have hadd : (⟨b, 0, none⟩ : Addr).add j = ⟨b, j, none⟩ := by unfold Addr.add; split <;> simp_all
    rw [hadd]
    obtain ⟨b', o', e', hc⟩ := h.rd j u hu
    cases e'
    simpa using hc
   have hold := run_firstCells_some (P := P) w.drew i.size n ⟨b, 0, none⟩ n c xs h.1 holds
   have hr := run_append_grow_src (P := P) w t tx ty e i z ti.ht hi hz (some ⟨b, 0, none⟩) n c xs hold x m news hs (by omega) (by omega) (growslice_fits (by omega) hb)
   have hge := grownCap_ge w (n + m) c e
   have hcm : grownCap w (n + m) c e ≤ maxLen := grownCap_le_maxLen w (n + m) c e h63
   refine ⟨_, _, _, hr, ⟨hlen, .inr ⟨w.heap.size, _, rfl, heap_alloc_new w.drew _, hge, hcm, ?_, ?_⟩⟩, (Mod.refl _ w).drew.alloc _, .inr ⟨w.heap.size, rfl, Nat.le_refl _⟩, fun hh => by cases hh⟩
   ·simp only [Array.size_append, List.size_toArray, size_zeroCells, hzs, hlen, ← Nat.add_mul]
    congr 1
    omega
   ·simp only [Array.toList_append]
    rw [← hlen]
    exact List.take_left
end
def subA (a : Option Addr) (c lo k : Nat) : Option Addr := if c = lo then a else a.map (·.add (lo * k))
theorem subA_rd {w : World} {a : Option Addr} {xs : List Value} (h : Rd w a xs) {c lo k : Nat} (hc : c = lo → xs.length ≤ lo * k) : Rd w (subA a c lo k) (xs.drop (lo * k)) := by
 unfold subA
 split
 ·rename_i hh
  rw [List.drop_eq_nil_of_le (hc hh)]; exact Rd.nil _ _
 ·intro i u hi
  rw [List.getElem?_drop] at hi
  obtain ⟨b, o, rfl, hcell⟩ := h _ u hi
  have : (⟨b, o, none⟩ : Addr).add (lo * k) = ⟨b, o + lo * k, none⟩ := by unfold Addr.add; split <;> simp_all
  exact ⟨b, o + lo * k, by simp [this], by rw [Nat.add_assoc]; exact hcell⟩
@[simp] theorem subA_blk (a : Option Addr) (c lo k : Nat) : blk (subA a c lo k) = blk a := by
  unfold subA
  split
  · rfl
  · cases a with
    | none => rfl
    | some a => simp [blk, Addr.add]; split <;> rfl
section
variable {P : Program} {t e : TypeId} {k bytes : Nat}
theorem run_slice_lo' (ti : TI P t e k bytes) (a : Option Addr) (n c : Nat) (lo : Int) (h0 : 0 ≤ lo) (h1 : lo ≤ n) (w : World) :
 (Instr.slice t (.slice a n c) (some (.int .i64 lo)) none none).run P w = .ok (.slice (subA a c lo.toNat k) (n - lo.toNat) (c - lo.toNat)) w := by
 obtain ⟨i, z, hi, hz, rfl, rfl, hzs⟩ := ti.ex
 simp [Instr.slice, run_underlying ti.ht, Instr.sliceBounds, Instr.sliceBound, asIntOf, h0, h1, sizeOf, typeInfo, hi, subA]
theorem run_slice_lohi' (ti : TI P t e k bytes) (a : Option Addr) (n c : Nat) (lo hi : Int) (h0 : 0 ≤ lo) (h1 : lo ≤ hi) (h2 : hi ≤ c) (w : World) :
 (Instr.slice t (.slice a n c) (some (.int .i64 lo)) (some (.int .i64 hi)) none).run P w = .ok (.slice (subA a c lo.toNat k) (hi.toNat - lo.toNat) (c - lo.toNat)) w := by
 obtain ⟨i, z, hinf, hz, rfl, rfl, hzs⟩ := ti.ex
 have h3 : 0 ≤ hi := by omega
 have h5 : lo ≤ max hi 0 := by omega
 simp [Instr.slice, run_underlying ti.ht, Instr.sliceBounds, Instr.sliceBound, asIntOf, h0, h2, h3, h5, sizeOf, typeInfo, hinf, subA]
end
structure Grow (w : World) (a : Option Addr) (w' : World) (a' : Option Addr) : Prop where
 mod : Mod (fun b => blk a = some b) w w'
 pos : blk a' = blk a ∨ ∃ b, blk a' = some b ∧ w.heap.size ≤ b
theorem Grow.refl (w : World) (a : Option Addr) : Grow w a w a := ⟨Mod.refl _ w, .inl rfl⟩
theorem Grow.trans {w w1 w2 : World} {a a1 a2 : Option Addr} (h : Grow w a w1 a1) (k : Grow w1 a1 w2 a2) : Grow w a w2 a2 := by
 refine ⟨h.mod.step k.mod fun i hi hs => ?_, ?_⟩
 ·rcases h.pos with e | ⟨b, e, hb⟩
  ·rw [← e]; exact hs
  ·rw [e] at hs; cases hs; omega
 ·rcases k.pos with e | ⟨b, e, hb⟩
  ·rw [e]; exact h.pos
  ·exact .inr ⟨b, e, Nat.le_trans h.mod.size hb⟩
theorem Grow.pre {w w1 w2 : World} {a a2 : Option Addr} (h : Mod (fun b => blk a = some b) w w1) (k : Grow w1 a w2 a2) : Grow w a w2 a2 :=
 Grow.trans ⟨h, .inl rfl⟩ k
theorem Grow.post {w w1 w2 : World} {a a1 : Option Addr} (k : Grow w a w1 a1) (h : Mod (fun b => blk a1 = some b) w1 w2) : Grow w a w2 a1 :=
 Grow.trans k ⟨h, .inl rfl⟩
theorem Grow.pre0 {w w1 w2 : World} {a a2 : Option Addr} (h : Mod (fun _ => False) w w1) (k : Grow w1 a w2 a2) : Grow w a w2 a2 :=
 Grow.pre (h.mono fun _ _ f => f.elim) k
theorem Grow.ne {w w' : World} {a a' : Option Addr} (h : Grow w a w' a') {b : Nat} (hb : b < w.heap.size) (hn : blk a ≠ some b) : blk a' ≠ some b := by
 rcases h.pos with e | ⟨g, e, hg⟩
 ·rw [e]; exact hn
 ·rw [e]; intro hh; cases hh; omega
theorem Grow.mod0 {w w' : World} {a' : Option Addr} (h : Grow w none w' a') : Mod (fun _ => False) w w' := h.mod.mono fun _ _ e => by simp at e
section
variable {P : Program} {w : World}
theorem wpL_append {ops : Array Oper} {rest : List Oper} {o : Oper} {A : Act} {Q : Exit → Act → World → Prop} (hgd : o.guard = none) (s x : Operand) (t tx : TypeId)
 (ho : o.op = .call { callee := .builtin .append, args := #[s, x], argTypes := #[t, tx] }) {e : TypeId} {k bytes : Nat} (ti : TI P t e k bytes)
 {a : Option Addr} {n c : Nat} {xs : List Value} (hs : A.eval s = .slice a n c) (h : Own w e k a n c xs)
 {xv : Value} {m : Nat} {news : List Value} (hx : A.eval x = xv) (hsrc : Src P k tx xv m news w) (hb : (n + m) * bytes ≤ 140737488355328) (h63 : n + m ≤ maxLen)
 (hk : ∀ a' c' w', Own w' e k a' (n + m) c' (xs ++ news) → Grow w a w' a' → (a' = none → n + m = 0) →
  wpList P ops Q rest (A.put o.dst (.slice a' (n + m) c')) w') : wpList P ops Q (o :: rest) A w :=
 wpList_plain hgd fun _ hK => by
  obtain ⟨a', c', w', hr, h2, h3, h4, h5⟩ := run_append_mine (ty := o.type) ti h hsrc hb h63
  unfold Oper.wp execOp
  simp only [ho, resolve, invoke, builtin, Sem.run_bind, Sem.run_pure, Result.andThen_ok, List.map_toArray, List.map_cons, List.map_nil, hs, hx, hr]
  exact hK _ _ (hk a' c' w' h2 ⟨h3, h4⟩ h5)
theorem Grow.fresh {w w' : World} {a' : Option Addr} (h : Grow w none w' a') : ∀ b, blk a' = some b → w.heap.size ≤ b := by
 intro b hb
 rcases h.pos with e | ⟨g, e, hg⟩
 ·rw [e] at hb; simp at hb
 ·rw [e] at hb; cases hb; exact hg
theorem wpL_append0 {ops : Array Oper} {rest : List Oper} {o : Oper} {A : Act} {Q : Exit → Act → World → Prop} (hgd : o.guard = none) (s x : Operand) (t tx : TypeId)
 (ho : o.op = .call { callee := .builtin .append, args := #[s, x], argTypes := #[t, tx] }) {e : TypeId} {k bytes : Nat} (ti : TI P t e k bytes)
 (hs : A.eval s = .slice none 0 0)
 {xv : Value} {m : Nat} {news : List Value} (hx : A.eval x = xv) (hsrc : Src P k tx xv m news w) (hb : m * bytes ≤ 140737488355328) (h63 : m ≤ maxLen)
 (hk : ∀ a' c' w', Own w' e k a' m c' news → Mod (fun _ => False) w w' → (∀ b, blk a' = some b → w.heap.size ≤ b) → (a' = none → m = 0) →
  wpList P ops Q rest (A.put o.dst (.slice a' m c')) w') : wpList P ops Q (o :: rest) A w :=
 wpL_append hgd s x t tx ho ti hs (Own.nil w e k) hx hsrc (by simpa using hb) (by simpa using h63) fun a' c' w' h1 h2 h3 => by
  have := hk a' c' w'
  simp only [Nat.zero_add, List.nil_append] at h1 h3 ⊢
  exact this h1 h2.mod0 h2.fresh h3
theorem wpL_appendN {ops : Array Oper} {rest : List Oper} {o : Oper} {A : Act} {Q : Exit → Act → World → Prop} (hgd : o.guard = none) (s x : Operand) (t : TypeId)
 (ho : o.op = .call { callee := .builtin .append, args := #[s, x], argTypes := #[t, t] }) {e : TypeId} {k bytes : Nat} (ti : TI P t e k bytes)
 {a : Option Addr} {n c : Nat} {xs : List Value} (hs : A.eval s = .slice a n c) (h : Own w e k a n c xs)
 {m m' gx : Nat} {us : List Value} (hx : A.eval x = .slice (some ⟨gx, 0, none⟩) m m') (hu : us.length = m * k) (h1 : us.all Value.oneCell' = true)
 (hb : (n + m) * bytes ≤ 140737488355328) (h63 : n + m ≤ maxLen)
 (hk : ∀ a' c' w', Own w' e k a' (n + m) c' (xs ++ us) → Grow w a w' a' → (a' = none → n + m = 0) →
  wpList P ops Q rest (A.put o.dst (.slice a' (n + m) c')) w') (hgx : gx = w.heap.size := by first | rfl | simp) : wpList P ops Q (o :: rest) A (w.alloc (.cells us.toArray e)) := by
 subst hgx
 exact
 wpL_append hgd s x t t ho ti hs (h.mod ((Mod.refl (fun _ => False) w).alloc _) (fun _ _ h => h)) hx (Src.ofRd ti.ht m m' (Rd.news w us e) hu (by simpa using h1)) hb h63
  fun a' c' w' h2 h3 h4 => hk a' c' w' h2 (h3.pre0 ((Mod.refl _ w).alloc _)) h4
end
def bts (l : List UInt8) : List Value := l.map fun b => .int .u8 b.toNat
def sts (l : List ByteArray) : List Value := l.map .string
def its (l : List Int) : List Value := l.map (.int .i64)
@[simp] theorem bts_length (l : List UInt8) : (bts l).length = l.length := by simp [bts]
@[simp] theorem sts_length (l : List ByteArray) : (sts l).length = l.length := by simp [sts]
@[simp] theorem its_length (l : List Int) : (its l).length = l.length := by simp [its]
theorem bts_append (l m : List UInt8) : bts (l ++ m) = bts l ++ bts m := by simp [bts]
theorem sts_append (l m : List ByteArray) : sts (l ++ m) = sts l ++ sts m := by simp [sts]
theorem bts_byteCells (s : ByteArray) : byteCells s = bts s.data.toList := by simp [byteCells, bts]
theorem bts_one (l : List UInt8) : ∀ u ∈ bts l, u.oneCell' = true := by simp [bts, Value.oneCell']
theorem run_bytes_str {P : Program} {w : World} {src dst e : TypeId} (hs : P.underlying src = some (.slice e)) (he : P.underlying e = some (.int .u8)) (hd : P.underlying dst = some .string)
 {a : Option Addr} {l : List UInt8} (c : Nat) (h : Rd w a (bts l)) : (convert src dst (.slice a l.length c)).run P w = .ok (.string ⟨l.toArray⟩) w := by
 cases a with
 | none =>
   have hx : l = [] := by
    cases l with
    | nil => rfl
    | cons u xs => obtain ⟨b, o, e, _⟩ := h 0 _ rfl; cases e
   subst hx
   exact run_convert_bytes_nil w src e hs he _ _ dst hd
 | some ad =>
   have holds : ∀ j u, (bts l)[j]? = some u → w.cell? (ad.add j) = some u := fun j u hu => by
    obtain ⟨b, o, e, hc⟩ := h j u hu
    cases e
    have : (⟨b, o, none⟩ : Addr).add j = ⟨b, o + j, none⟩ := by unfold Addr.add; split <;> simp_all
    rw [this]; exact hc
   have hl := run_loadCells_list (P := P) w ad (bts l) holds
   have e1 : bts l = (l.map fun b => (b.toNat : Int)).map (Value.int .u8) := by simp [bts]
   rw [bts_length, e1] at hl
   rw [run_convert_bytes_string w src dst e _ _ c hs he hd, run_bytesToString w ad _ c _ hl, foldl_push_bytes]
   congr 2
   apply ByteArray.ext
   apply Array.ext'
   simp [ByteArray.empty, ByteArray.emptyWithCapacity]
   have : ((fun n : Int => UInt8.ofNat n.toNat) ∘ fun b : UInt8 => (b.toNat : Int)) = id := by funext b; simp
   rw [this]; simp; rfl
theorem ret_bool {a b : Bool} (h : a = b) : Ending.returned (.bool a) = .returned (.bool b) := by rw [h]
theorem baEq (s t : ByteArray) : (s.toList == t.toList) = decide (s = t) := by
 rw [ByteArray.toList_eq, ByteArray.toList_eq, Bool.eq_iff_iff]
 simp
 constructor
 ·intro h; cases s; cases t; simp at h; simp [h]
 ·intro h; rw [h]
end Go.Mine
