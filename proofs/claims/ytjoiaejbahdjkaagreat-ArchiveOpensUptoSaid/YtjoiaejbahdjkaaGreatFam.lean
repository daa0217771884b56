/-
  Several things that lie in blocks of their own, side by side: what turns one of them leaves the others.
-/
import Derived.Test.YtjoiaejbahdjkaaGreatOrd
namespace Go.Mine
open Go Go.RowKit
set_option linter.unusedVariables false
structure It where
 F : Nat → Prop
 P : World → Prop
 st : ∀ (S : Nat → Prop) (w w' : World), P w → Mod S w w' → (∀ b, F b → ¬ S b) → P w'
 lt : ∀ w, P w → ∀ b, F b → b < w.heap.size
structure Fam (L : Nat) (w : World) (its : List It) : Prop where
 at_ : ∀ i ∈ its, i.P w
 dj : its.Pairwise (fun i j => ∀ b, i.F b → ¬ j.F b)
 lo : ∀ i ∈ its, ∀ b, i.F b → L ≤ b
 sz : L ≤ w.heap.size
section
variable {L : Nat} {w w' : World} {its its' l1 l2 : List It} {i i' : It}
theorem Fam.nil {w : World} (h : L ≤ w.heap.size) : Fam L w [] := ⟨(fun _ h => by cases h), .nil, (fun _ h => by cases h), h⟩
theorem Fam.mod {S : Nat → Prop} (h : Fam L w its) (m : Mod S w w') (hs : ∀ i ∈ its, ∀ b, i.F b → ¬ S b) : Fam L w' its :=
 ⟨fun i hi => i.st S w w' (h.at_ i hi) m (hs i hi), h.dj, h.lo, Nat.le_trans h.sz m.size⟩
theorem Fam.mod0 (h : Fam L w its) (m : Mod (fun _ => False) w w') : Fam L w' its := h.mod m (fun _ _ _ _ => id)
theorem Fam.lt (h : Fam L w its) (hi : i ∈ its) : ∀ b, i.F b → b < w.heap.size := i.lt w (h.at_ i hi)
theorem Fam.perm (h : Fam L w its) (p : its.Perm its') : Fam L w its' :=
 ⟨fun i hi => h.at_ i (p.mem_iff.2 hi), (p.pairwise_iff (fun {x y} hxy b hy hx => hxy b hx hy)).1 h.dj, fun i hi => h.lo i (p.mem_iff.2 hi), h.sz⟩
theorem Fam.sub (h : Fam L w its) (p : its'.Sublist its) : Fam L w its' := ⟨fun i hi => h.at_ i (p.subset hi), h.dj.sublist p, fun i hi => h.lo i (p.subset hi), h.sz⟩
theorem Fam.mono {L' : Nat} (h : Fam L w its) (hl : L' ≤ L) : Fam L' w its := ⟨h.at_, h.dj, fun i hi b hb => Nat.le_trans hl (h.lo i hi b hb), Nat.le_trans hl h.sz⟩
theorem Fam.append {L' : Nat} (h : Fam L w its) (m : Mod (fun _ => False) w w') (h' : Fam L' w' its') (hl : w.heap.size ≤ L') : Fam L w' (its ++ its') := by
 refine ⟨fun i hi => ?_, List.pairwise_append.2 ⟨h.dj, h'.dj, fun i hi j hj b hb hb' => ?_⟩, fun i hi b hb => ?_, Nat.le_trans h.sz m.size⟩
 ·rcases List.mem_append.1 hi with hi | hi
  ·exact i.st _ w w' (h.at_ i hi) m (fun _ _ => id)
  ·exact h'.at_ i hi
 ·have h1 := h.lt hi b hb
  have h2 := h'.lo j hj b hb'
  omega
 ·rcases List.mem_append.1 hi with hi | hi
  ·exact h.lo i hi b hb
  ·have h1 := h'.lo i hi b hb
   have h2 := h.sz
   omega
theorem Fam.one {w : World} (h : i.P w) (hl : ∀ b, i.F b → L ≤ b) (hz : L ≤ w.heap.size) : Fam L w [i] :=
 ⟨fun j hj => by rw [List.mem_singleton] at hj; subst hj; exact h, List.pairwise_singleton _ _, fun j hj => by rw [List.mem_singleton] at hj; subst hj; exact hl, hz⟩
theorem Fam.push (h : Fam L w its) (m : Mod (fun _ => False) w w') (hi : i.P w') (hl : ∀ b, i.F b → w.heap.size ≤ b) : Fam L w' (its ++ [i]) :=
 h.append m (Fam.one hi hl m.size) (Nat.le_refl _)
theorem Fam.cons (h : Fam L w its) (m : Mod (fun _ => False) w w') (hi : i.P w') (hl : ∀ b, i.F b → w.heap.size ≤ b) : Fam L w' (i :: its) :=
 (h.push m hi hl).perm (by
  have h1 : (its ++ [i]).Perm ([i] ++ its) := List.perm_append_comm
  exact h1)
theorem Fam.upd0 (h : Fam L w (i :: its)) (m : Mod i.F w w') (hi : i'.P w') (hf : ∀ b, i'.F b → i.F b ∨ w.heap.size ≤ b) : Fam L w' (i' :: its) := by
 have hd := List.pairwise_cons.1 h.dj
 refine ⟨fun j hj => ?_, List.pairwise_cons.2 ⟨fun j hj b hb hb' => ?_, hd.2⟩, fun j hj b hb => ?_, Nat.le_trans h.sz m.size⟩
 ·rcases List.mem_cons.1 hj with rfl | hj
  ·exact hi
  ·exact j.st _ w w' (h.at_ j (List.mem_cons_of_mem _ hj)) m (fun b hb hb' => hd.1 j hj b hb' hb)
 ·rcases hf b hb with hb | hb
  ·exact hd.1 j hj b hb hb'
  ·have := h.lt (List.mem_cons_of_mem _ hj) b hb'
   omega
 ·rcases List.mem_cons.1 hj with rfl | hj
  ·rcases hf b hb with hb | hb
   ·exact h.lo i (List.mem_cons_self ..) b hb
   ·exact Nat.le_trans h.sz hb
  ·exact h.lo j (List.mem_cons_of_mem _ hj) b hb
theorem Fam.upd (h : Fam L w (l1 ++ i :: l2)) (m : Mod i.F w w') (hi : i'.P w') (hf : ∀ b, i'.F b → i.F b ∨ w.heap.size ≤ b) : Fam L w' (l1 ++ i' :: l2) :=
 ((h.perm List.perm_middle).upd0 m hi hf).perm List.perm_middle.symm
theorem set_mid {α : Type} {l : List α} {k : Nat} (hk : k < l.length) (x : α) : l.set k x = l.take k ++ x :: l.drop (k + 1) := by
 rw [List.set_eq_take_append_cons_drop, if_pos hk]
theorem get_mid {α : Type} {l : List α} {k : Nat} (hk : k < l.length) : l = l.take k ++ l[k] :: l.drop (k + 1) := by
 rw [List.getElem_cons_drop, List.take_append_drop]
theorem Fam.set (h : Fam L w its) {k : Nat} (hk : k < its.length) (m : Mod its[k].F w w') (hi : i'.P w') (hf : ∀ b, i'.F b → its[k].F b ∨ w.heap.size ≤ b) : Fam L w' (its.set k i') := by
 rw [set_mid hk]
 have h' := h
 rw [get_mid hk] at h'
 exact h'.upd m hi hf
theorem Fam.base (h : Fam L w its) {u : World} (hu : u.heap.size ≤ L) (m0 : Mod (fun _ => False) u w) (hi : i ∈ its) (m : Mod i.F w w') : Mod (fun _ => False) u w' :=
 m0.step m fun b hb e => by have := h.lo i hi b e; omega
theorem Fam.weak (h : Fam L w its) {f : It → It} (hp : ∀ i ∈ its, (f i).P w) (hf : ∀ i ∈ its, ∀ b, (f i).F b → i.F b) : Fam L w (its.map f) := by
 refine ⟨fun i hi => ?_, ?_, fun i hi b hb => ?_, h.sz⟩
 ·obtain ⟨j, hj, rfl⟩ := List.mem_map.1 hi
  exact hp j hj
 ·rw [List.pairwise_map]
  exact h.dj.imp_of_mem (fun {x y} hx hy hxy b hb hb' => hxy b (hf x hx b hb) (hf y hy b hb'))
 ·obtain ⟨j, hj, rfl⟩ := List.mem_map.1 hi
  exact h.lo j hj b (hf j hj b hb)
end
def pin (b : Nat) : It := ⟨fun k => k = b, fun w => b < w.heap.size, fun _ _ _ h m _ => Nat.lt_of_lt_of_le h m.size, fun _ h _ e => by subst e; exact h⟩
def ownI (e : TypeId) (k : Nat) (a : Option Addr) (n c : Nat) (xs : List Value) : It :=
 ⟨fun b => blk a = some b, fun w => Own w e k a n c xs, fun _ _ _ h m hs => h.mod m hs, fun _ h => h.lt⟩
structure Sl where
 a : Option Addr
 n : Nat
 c : Nat
def Sl.val (s : Sl) : Value := .slice s.a s.n s.c
def Sl.nil : Sl := ⟨none, 0, 0⟩
end Go.Mine
namespace Go.Proofs.YtjoiaejbahdjkaaGreat
open Go Go.RowKit Go.Mine
set_option linter.unusedVariables false
end Go.Proofs.YtjoiaejbahdjkaaGreat
