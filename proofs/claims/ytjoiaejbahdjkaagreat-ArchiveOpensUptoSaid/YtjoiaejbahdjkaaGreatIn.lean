/-
  In a round of a range over a function: a region that draws its order, walked in one order; append to a slice of the call's own.
-/
import Derived.Test.YtjoiaejbahdjkaaGreatOrd
import Derived.RangeFuncNested
import Derived.RangeFuncBound
import Derived.RangeFuncCalls
import Derived.RangeFuncLeaves
import Derived.Shelf.Abstract
import Derived.Shelf.RegionOpen
import Derived.OwnWalkIn
import Derived.TacticsInMore
import Derived.LoopNIn
import Derived.LoopIn
namespace Go.Mine
open Go Go.RowKit
abbrev inR (r : Nat) : Fence := Fence.wide.inRound r
section
variable {P : Program} {S : World → Prop} {Q : Exit → Act → World → Prop} {r n : Nat}
theorem rowsIn_of {row : String} {args : Array Value} {w : World} {R : Value → World → Prop} (h : Rows P row args w R) : RowsIn (inR r) n P row args w R := by
 intro c cs _
 obtain ⟨v, w', hR, hs⟩ := h c cs
 exact ⟨v, w', hR, stepsIn_wide.2 hs⟩
def noDefer (o : Oper) : Bool := match o.op with
 | .defer .. => false
 | _ => true
theorem semAt_noDefer {o : Oper} (h : noDefer o = true) (ρ : Operand → Value) (x : Option Nat) : o.semAt x ρ = execOp ρ o := by
 cases x with
 | none => rfl
 | some l =>
   refine Oper.semAt_some l ρ o fun c hc => ?_
   unfold noDefer at h
   rw [hc] at h
   cases h
theorem oper_wpIn {o : Oper} (hd : noDefer o = true) {a : Act} {w : World} {K : Act → World → Prop} (h : o.wp P a w K (Strict Q)) : o.wpIn (inR r) n P a w K Q := by
 unfold Oper.wp at h
 refine ⟨fun _ _ => trivial, ?_⟩
 show o.uponIn (inR r) n P a K Q ((o.semAt (some r) a.eval).run P w)
 rw [semAt_noDefer hd]
 generalize (execOp a.eval o).run P w = x at *
 cases x with
 | ok y w' =>
   cases y <;> simp only [Oper.upon, Oper.uponIn] at *
   case value => exact h
   case skip => exact h
   case defer => exact h
   case enter =>
    refine ⟨fun h0 => ?_, CallsIn.inRound r (callsIn_wide.2 (h.mono ?_))⟩
    ·cases h0
    ·intro e w2 he
     cases e with
     | returned v => exact he
     | panicked c => exact (he : False).elim
     | outgrown => obtain ⟨a', w', hh⟩ := he; exact (hh : False).elim
   case row =>
    exact ⟨fun h0 => (by cases h0), rowsIn_of h⟩
 | halt y w' =>
   cases y <;> simp only [Oper.upon, Oper.uponIn] at *
   all_goals exact (h : False).elim
theorem wpOpsIn_of_wpOps {ops : Array Oper} (hd : ∀ (i : Nat) (o : Oper), ops[i]? = some o → noDefer o = true) : ∀ (l : List Nat) (a : Act) (w : World), wpOps P ops (Strict Q) l a w → wpOpsIn (inR r) n P ops Q l a w
 | [], a, w, h => h
 | i :: rest, a, w, h => by
   simp only [wpOps, wpOpsIn] at *
   cases ho : ops[i]? with
   | none => rw [ho] at h; exact wpOpsIn_of_wpOps hd rest a w h
   | some o =>
     rw [ho] at h
     simp only at *
     split
     ·rename_i hw
      rw [if_pos hw] at h
      rcases h with h | ⟨_, a', w', hh⟩
      ·exact Oper.wpIn_mono (fun a' w' h => wpOpsIn_of_wpOps hd rest a' w' h) (oper_wpIn (hd i o ho) h)
      ·exact (hh : False).elim
     ·rename_i hw
      rw [if_neg hw] at h
      exact ⟨fun _ _ => trivial, wpOpsIn_of_wpOps hd rest _ w h⟩
theorem wpIn_region_ord {l : List Oper} {id : Nat} {a : Act} {w : World} (S : World → Prop) (ord : List (Nat × Nat)) (hm : P.follows .mixedOrders = true) (hB : ordOk l ord = true) (hD : l.all noDefer = true)
 (h : wpOrd P l S Q ord a w.drew) : (Code.region id l.toArray true).wpIn (inR r) n P Q a w := by
 simp only [ordOk, Bool.and_eq_true, beq_iff_eq, List.all_eq_true, decide_eq_true_eq] at hB hD
 obtain ⟨⟨⟨⟨⟨⟨⟨h1, h2⟩, h8⟩, h3⟩, h4⟩, h5⟩, h6⟩, h7⟩ := hB
 have := wpAny_of_ord (P := P) (S := S) (Q := Q) h1 h5 h6 ord.length ord (Array.replicate l.length false) a w.drew rfl ⟨by simp, h3, h4, fun i hi => ?_, fun k o hk => ?_, h7⟩ h
 ·rw [h2] at this
  refine wpIn_region_draw fun t => ?_
  simp only [Region.schedule, hm, Bool.true_or, if_true]
  refine wpOpsIn_of_wpOps (fun i o ho => hD o (List.mem_of_getElem? (by simpa using ho))) _ _ _ ?_
  have h9 := wpAny_sound (md := .any) (ops := l.toArray) l.toArray.size t (Array.replicate l.toArray.size false) a w.drew (by simpa using this)
  exact h9
 ·simp only [Array.getD_eq_getD_getElem?, Array.getElem?_replicate, hi, if_true, Option.getD_some, true_iff]
  have := h8 i (List.mem_range.2 hi)
  simpa using this
 ·exfalso
  simp [Array.getD_eq_getD_getElem?, Array.getElem?_replicate] at hk
  split at hk <;> simp at hk
end
end Go.Mine
