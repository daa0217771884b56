/-
  What lies in cells abides an iterator's steps (a copy of Scan's first part, for seats without Scan).
-/
import Derived.Test.YtjoiaejbahdjkaaGreatIn
import Derived.RangeFuncWrites
import Derived.RangeFuncBox
namespace Go.Mine
open Go Go.RowKit
set_option linter.unusedVariables false
theorem Mod.ofGrown {W W' : World} {row : Option Nat} (hg : W.grownBy W' row) : Mod (fun k => row = some k) W W' :=
 ⟨hg.os, hg.tape, hg.output, hg.size, fun k hk hs => hg.block k hk (fun e => hs e.symm)⟩
theorem cells_ne {W : World} {row : Option Nat} (hr : ∀ r, row = some r → ∃ o : Obj, W.heap[r]? = some o ∧ o.isCells = false) {b : Nat} {cs : Array Value} {t : TypeId} {fz : Nat × Nat} (h : W.heap[b]? = some (.cells cs t fz)) : row ≠ some b := by
 intro e
 obtain ⟨o, ho, hc⟩ := hr b e
 rw [h] at ho; cases ho; simp [Obj.isCells] at hc
theorem Own.blk_cells {w : World} {e : TypeId} {k : Nat} {a : Option Addr} {n c : Nat} {xs : List Value} (h : Own w e k a n c xs) : ∀ b, blk a = some b → ∃ cur, w.heap[b]? = some (.cells cur e (0, 0)) := by
 intro b hb
 rcases h.2 with ⟨rfl, _⟩ | ⟨b', cur, rfl, hg, _⟩
 ·simp at hb
 ·simp at hb; subst hb; exact ⟨cur, hg⟩
theorem Own.turned {W W' : World} {row : Option Nat} {e : TypeId} {k : Nat} {a : Option Addr} {n c : Nat} {xs : List Value} (h : Own W e k a n c xs) (hg : W.grownBy W' row) (hr : ∀ r, row = some r → ∃ o : Obj, W.heap[r]? = some o ∧ o.isCells = false) : Own W' e k a n c xs :=
 h.mod (Mod.ofGrown hg) (fun b hb hs => by obtain ⟨cur, hc⟩ := h.blk_cells b hb; exact cells_ne hr hc hs)
theorem bx_turned {W W' : World} {row : Option Nat} {B : Nat} {t : TypeId} {v : Value} (h : Boxed W B t v) (hg : W.grownBy W' row) (hr : ∀ r, row = some r → ∃ o : Obj, W.heap[r]? = some o ∧ o.isCells = false) : Boxed W' B t v :=
 (Mod.ofGrown hg).at h (fun hs => cells_ne hr h hs)
theorem bx_mod {S : Nat → Prop} {W W' : World} {B : Nat} {t : TypeId} {v : Value} (h : Boxed W B t v) (m : Mod S W W') (hs : ¬ S B) : Boxed W' B t v := m.at h hs
theorem bx_put {W : World} {B : Nat} {t : TypeId} {v : Value} (h : Boxed W B t v) (u : Value) : Boxed (W.setCell ⟨B, 0, none⟩ u) B t u := by
 have := heap_setCell_at (j := 0) u h
 unfold Boxed
 simpa using this
theorem Mod.turned {S : Nat → Prop} {w W W' : World} {row : Option Nat} (h : Mod S w W) (hg : W.grownBy W' row) (hr : ∀ r, row = some r → w.heap.size ≤ r) : Mod S w W' :=
 h.step (Mod.ofGrown hg) (fun i hi e => by have := hr i e; omega)
theorem keepsFrom_mod {S : Nat → Prop} {B : Nat} {W W' : World} (h : Mod S W W') (hs : ∀ k, S k → ∀ o : Obj, W.heap[k]? = some o → o.isCells = true) : KeepsFrom B W W' :=
 ⟨h.size, fun k o _ hk ho => h.at hk (fun s => by rw [hs k s o hk] at ho; cases ho)⟩
theorem Mod.grownBy {w w' : World} (h : Mod (fun _ => False) w w') : w.grownBy w' none := ⟨h.os, h.tape, h.output, h.size, fun k hk _ => h.block k hk id⟩
structure KpR (hi : Nat) (W W' : World) : Prop where
 size : W.heap.size ≤ W'.heap.size
 same : ∀ k, k < hi → W'.heap[k]? = W.heap[k]?
theorem KpR.trans {hi : Nat} {A1 A2 A3 : World} (h : KpR hi A1 A2) (k : KpR hi A2 A3) : KpR hi A1 A3 :=
 ⟨Nat.le_trans h.size k.size, fun i h2 => (k.same i h2).trans (h.same i h2)⟩
theorem KpR.of_mod {S : Nat → Prop} {hi : Nat} {W W' : World} (h : Mod S W W') (hl : hi ≤ W.heap.size) (hs : ∀ k, k < hi → ¬ S k) : KpR hi W W' :=
 ⟨h.size, fun k h2 => h.block k (by omega) (hs k h2)⟩
theorem KpR.putObj {hi : Nat} {w : World} (hh : hi ≤ w.heap.size) (W : World) (l : Nat) (o o' : Obj) (hl : w.heap.size ≤ l) (h : W.heap[l]? = some o) (hc : o.isCells = false) (_ : o.isWalk = false) : KpR hi W (W.putObj l o') :=
 ⟨by simp, fun k h2 => World.putObj_heap_other (by omega)⟩
theorem rd_of_same {w w' : World} {a : Option Addr} {us : List Value} {hi : Nat} (h : Rd w a us) (hk : ∀ k, k < hi → w'.heap[k]? = w.heap[k]?) (hb : ∀ b, blk a = some b → b < hi) : Rd w' a us := by
 intro i u hi
 obtain ⟨b, o, rfl, hc⟩ := h i u hi
 exact ⟨b, o, rfl, (World.cell?_of_block (hk b (hb b rfl))).trans hc⟩
end Go.Mine
