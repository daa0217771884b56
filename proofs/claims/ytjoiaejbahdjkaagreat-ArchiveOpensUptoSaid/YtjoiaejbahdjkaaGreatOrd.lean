/-
  A region that draws its order, by one order of our choosing: operations that yield their value in every world that meets S are taken first; the others come up one by one.
-/
import Derived.Test.YtjoiaejbahdjkaaGreatBase
import Derived.Deep.RegionHeld3
import Derived.BigQuiet
import Derived.Laws.EntriesVeiled
namespace Go.Mine
open Go Go.RowKit
def okPair : Nat → Nat → Bool
 | 0, _ => true
 | _, 0 => true
 | 1, 1 => true
 | 1, 2 => true
 | _, _ => false
def closure (ops : List Oper) : List (List Nat) :=
 ops.foldl (fun acc o => acc ++ [(o.after.toList.flatMap fun e => if Region.binds .any e then e.on :: acc.getD e.on [] else []).eraseDups]) []
def closureOk (ops : List Oper) (cl : List (List Nat)) : Bool :=
 (List.range ops.length).all fun i => (cl.getD i []).all fun j => match ops[i]? with
  | none => false
  | some o => o.after.toList.any fun e => Region.binds .any e && decide (e.on < i) && (e.on == j || (cl.getD e.on []).contains j)
def edgesBack (ops : List Oper) : Bool := (List.range ops.length).all fun i => match ops[i]? with
 | none => false
 | some o => o.after.toList.all fun e => !Region.binds .any e || decide (e.on < i)
def pairOk (ops : List Oper) (cl : List (List Nat)) (x y : Nat × Nat) : Bool :=
 (cl.getD y.2 []).contains x.2 || (okPair x.1 y.1 && match ops[x.2]?, ops[y.2]? with
  | some ox, some oy => ox.apart ops.toArray oy && oy.apart ops.toArray ox
  | _, _ => false)
def pairsOk (ops : List Oper) (cl : List (List Nat)) : List (Nat × Nat) → Bool
 | [] => true
 | x :: r => r.all (pairOk ops cl x) && pairsOk ops cl r
def ordOk (l : List Oper) (ord : List (Nat × Nat)) : Bool :=
 Region.noSelect l.toArray && (ord.length == l.length) && (List.range l.length).all (fun i => (ord.map (·.2)).contains i) && ord.all (fun x => decide (x.2 < l.length)) && decide ((ord.map (·.2)).Nodup) &&
  closureOk l (closure l) && edgesBack l && pairsOk l (closure l) ord
section
variable {P : Program} {l : List Oper} {S : World → Prop} {Q : Exit → Act → World → Prop}
def Strict (Q : Exit → Act → World → Prop) : Exit → Act → World → Prop
 | .normal, a, w => Q .normal a w
 | _, _, _ => False
theorem Strict.imp {Q : Exit → Act → World → Prop} (e : Exit) (a : Act) (w : World) (h : Strict Q e a w) : Q e a w := by
 cases e <;> first | exact h | exact (h : False).elim
def OrdStep (P : Program) (l : List Oper) (S : World → Prop) (Q : Exit → Act → World → Prop) (x : Nat × Nat) (K : Act → World → Prop) (a : Act) (w : World) : Prop :=
 ∃ o, l[x.2]? = some o ∧ ((Region.wanted o (yielded l.toArray a.tmps) = false ∧ K (a.put o.dst undef) w) ∨ (Region.wanted o (yielded l.toArray a.tmps) = true ∧ match x.1 with
  | 0 => ∃ v, (∀ w', (execOp a.eval o).run P w' = .ok (.value v) w') ∧ K (a.put o.dst v) w
  | 1 => S w ∧ ∃ v, (∀ w', S w' → (execOp a.eval o).run P w' = .ok (.value v) w') ∧ K (a.put o.dst v) w
  | 2 => S w ∧ o.wp P a w (fun a' w' => S w' ∧ K a' w') (Strict Q)
  | _ => o.wp P a w K (Strict Q)))
def wpOrd (P : Program) (l : List Oper) (S : World → Prop) (Q : Exit → Act → World → Prop) : List (Nat × Nat) → Act → World → Prop
 | [], a, w => Q .normal a w
 | x :: r, a, w => OrdStep P l S Q x (wpOrd P l S Q r) a w
theorem OrdStep.mono {x : Nat × Nat} {K K' : Act → World → Prop} {a : Act} {w : World} (h : OrdStep P l S Q x K a w) (hk : ∀ a w, K a w → K' a w) : OrdStep P l S Q x K' a w := by
 obtain ⟨o, ho, h⟩ := h
 refine ⟨o, ho, h.imp (fun ⟨h1, h2⟩ => ⟨h1, hk _ _ h2⟩) (fun ⟨h1, h2⟩ => ⟨h1, ?_⟩)⟩
 revert h2
 rcases x.1 with _ | _ | _ | n <;> simp only
 ·rintro ⟨v, h1, h2⟩; exact ⟨v, h1, hk _ _ h2⟩
 ·rintro ⟨hs, v, h1, h2⟩; exact ⟨hs, v, h1, hk _ _ h2⟩
 ·rintro ⟨hs, h2⟩; exact ⟨hs, Oper.wp_mono (fun _ _ h => ⟨h.1, hk _ _ h.2⟩) h2⟩
 ·exact Oper.wp_mono hk
theorem OrdStep.wpOp {x : Nat × Nat} {K : Act → World → Prop} {a : Act} {w : World} (h : OrdStep P l S Q x K a w) : wpOp P l.toArray (Strict Q) x.2 K a w := by
 obtain ⟨o, ho, h⟩ := h
 unfold Go.wpOp
 have ho' : l.toArray[x.2]? = some o := by simpa using ho
 rw [ho']
 rcases h with ⟨hw, h⟩ | ⟨hw, h⟩
 ·simp only [hw]; exact h
 ·simp only [hw, if_true]
  left
  revert h
  rcases x.1 with _ | _ | _ | n <;> simp only
  ·rintro ⟨v, h1, h2⟩; unfold Oper.wp; rw [h1 w]; exact h2
  ·rintro ⟨hs, v, h1, h2⟩; unfold Oper.wp; rw [h1 w hs]; exact h2
  ·rintro ⟨hs, h⟩; exact Oper.wp_mono (fun _ _ h => h.2) h
  ·exact id
theorem wp_unput {o : Oper} (hs : ∀ cs b, o.op ≠ .select cs b) {a : Act} {w : World} {d : Option Tmp} {v : Value} {K : Act → World → Prop} (h1 : ∀ t, d = some t → t ∉ o.looksAt l.toArray) (h2 : ∀ t, d = some t → o.dst ≠ some t)
 (h : o.wp P (a.put d v) w K (Strict Q)) : o.wp P a w (fun a' w' => K (a'.put d v) w') (Strict Q) := by
 unfold Oper.wp at *
 rw [execOp_put o hs a d v h1] at h
 generalize (execOp a.eval o).run P w = r at *
 have hc : ∀ (a : Act) (u : Value), (a.put o.dst u).put d v = (a.put d v).put o.dst u := fun a u => (Act.put_comm a v u h2).symm
 cases r with
 | halt x w1 => cases x <;> simp only [Oper.upon] at * <;> exact h
 | ok n w1 =>
   cases n <;> simp only [Oper.upon, hc] at *
   case value => exact h
   case skip => exact h
   case enter => exact h.mono fun e w2 hh => by cases e <;> exact hh
   case row => exact h
   case defer =>
    have e : ∀ x : Deferred, (({ a with defers := x :: a.defers } : Act).put d v).put o.dst undef = ({ a.put d v with defers := x :: (a.put d v).defers } : Act).put o.dst undef := fun x => by cases d <;> rfl
    rw [e]; exact h
theorem wp_put {o : Oper} (hs : ∀ cs b, o.op ≠ .select cs b) {a : Act} {w : World} {d : Option Tmp} {v : Value} {K : Act → World → Prop} (h1 : ∀ t, d = some t → t ∉ o.looksAt l.toArray) (h2 : ∀ t, d = some t → o.dst ≠ some t)
 (h : o.wp P a w (fun a' w' => K (a'.put d v) w') (Strict Q)) : o.wp P (a.put d v) w K (Strict Q) := by
 unfold Oper.wp at *
 rw [execOp_put o hs a d v h1]
 generalize (execOp a.eval o).run P w = r at *
 have hc : ∀ (a : Act) (u : Value), (a.put o.dst u).put d v = (a.put d v).put o.dst u := fun a u => (Act.put_comm a v u h2).symm
 cases r with
 | halt x w1 => cases x <;> simp only [Oper.upon] at * <;> exact h
 | ok n w1 =>
   cases n <;> simp only [Oper.upon, hc] at *
   case value => exact h
   case skip => exact h
   case enter => exact h.mono fun e w2 hh => by cases e <;> exact hh
   case row => exact h
   case defer =>
    have e : ∀ x : Deferred, (({ a with defers := x :: a.defers } : Act).put d v).put o.dst undef = ({ a.put d v with defers := x :: (a.put d v).defers } : Act).put o.dst undef := fun x => by cases d <;> rfl
    rw [e] at h; exact h
theorem wp_form {o : Oper} {a : Act} {w : World} {K : Act → World → Prop}
 (h : o.wp P a w K (Strict Q)) : o.wp P a w (fun a' w' => (∃ ds u, a' = ({ a with defers := ds } : Act).put o.dst u) ∧ K a' w') (Strict Q) := by
 unfold Oper.wp at *
 generalize (execOp a.eval o).run P w = r at *
 cases r with
 | halt x w1 => cases x <;> simp only [Oper.upon] at * <;> exact h
 | ok n w1 =>
   cases n <;> simp only [Oper.upon] at *
   case value => exact ⟨⟨_, _, rfl⟩, h⟩
   case skip => exact ⟨⟨_, _, rfl⟩, h⟩
   case enter => exact h.mono fun e w2 hh => by cases e <;> first | exact ⟨⟨_, _, rfl⟩, hh⟩ | exact hh
   case row => exact h.mono fun v w2 hh => ⟨⟨_, _, rfl⟩, hh⟩
   case defer => exact ⟨⟨_, _, rfl⟩, h⟩
theorem wp_ex {o : Oper} {a : Act} {w : World} {K : Act → World → Prop} (h : o.wp P a w K (Strict Q)) : ∃ a' w', K a' w' := by
 unfold Oper.wp at *
 generalize (execOp a.eval o).run P w = r at *
 cases r with
 | halt x w1 => cases x <;> simp only [Oper.upon] at * <;> exact h.elim
 | ok n w1 =>
   cases n <;> simp only [Oper.upon] at *
   case value => exact ⟨_, _, h⟩
   case skip => exact ⟨_, _, h⟩
   case enter =>
    obtain ⟨e, w2, fr, hR, _⟩ := h []
    cases e with
    | returned v => exact ⟨_, _, hR⟩
    | panicked c => exact hR.elim
    | outgrown => obtain ⟨a', w', hh⟩ := hR; exact (hh : False).elim
   case row => obtain ⟨v, w', hR, _⟩ := h default []; exact ⟨_, _, hR⟩
   case defer => exact ⟨_, _, h⟩
def Yv (P : Program) (l : List Oper) (S : World → Prop) (k : Nat) (o : Oper) (a : Act) (w : World) (v : Value) : Prop :=
 (Region.wanted o (yielded l.toArray a.tmps) = false ∧ v = undef) ∨
 (Region.wanted o (yielded l.toArray a.tmps) = true ∧ k ≤ 1 ∧ (k = 1 → S w) ∧ ∀ w', (k = 1 → S w') → (execOp a.eval o).run P w' = .ok (.value v) w')
theorem Yv.step {x : Nat × Nat} {o : Oper} (ho : l[x.2]? = some o) {K : Act → World → Prop} {a : Act} {w : World} {v : Value} (h : Yv P l S x.1 o a w v) (hk : K (a.put o.dst v) w) : OrdStep P l S Q x K a w := by
 refine ⟨o, ho, ?_⟩
 rcases h with ⟨h1, rfl⟩ | ⟨h1, h2, h3, h4⟩
 ·exact .inl ⟨h1, hk⟩
 ·refine .inr ⟨h1, ?_⟩
  obtain ⟨k, i⟩ := x
  rcases k with _ | _ | n
  ·exact ⟨v, fun w' => h4 w' (by simp), hk⟩
  ·exact ⟨h3 rfl, v, fun w' hs => h4 w' (fun _ => hs), hk⟩
  ·simp at h2
theorem OrdStep.cases {x : Nat × Nat} {o : Oper} (ho : l[x.2]? = some o) {K : Act → World → Prop} {a : Act} {w : World} (h : OrdStep P l S Q x K a w) :
 (∃ v, Yv P l S x.1 o a w v ∧ K (a.put o.dst v) w) ∨
 (Region.wanted o (yielded l.toArray a.tmps) = true ∧ 2 ≤ x.1 ∧ (x.1 = 2 → S w) ∧ o.wp P a w (fun a' w' => (x.1 = 2 → S w') ∧ K a' w') (Strict Q)) := by
 obtain ⟨o', ho', h⟩ := h
 rw [ho] at ho'; cases ho'
 obtain ⟨k, i⟩ := x
 rcases h with ⟨h1, h2⟩ | ⟨h1, h2⟩
 ·exact .inl ⟨undef, .inl ⟨h1, rfl⟩, h2⟩
 ·rcases k with _ | _ | _ | n <;> simp only at h2
  ·obtain ⟨v, h3, h4⟩ := h2; exact .inl ⟨v, .inr ⟨h1, by simp, by simp, fun w' _ => h3 w'⟩, h4⟩
  ·obtain ⟨hs, v, h3, h4⟩ := h2; exact .inl ⟨v, .inr ⟨h1, by simp, fun _ => hs, fun w' h => h3 w' (h rfl)⟩, h4⟩
  ·exact .inr ⟨h1, by simp, fun _ => h2.1, Oper.wp_mono (fun _ _ h => ⟨fun _ => h.1, h.2⟩) h2.2⟩
  ·exact .inr ⟨h1, by simp, by simp, Oper.wp_mono (fun _ _ h => ⟨by simp, h⟩) h2⟩
theorem OrdStep.eff {x : Nat × Nat} {o : Oper} (ho : l[x.2]? = some o) {K : Act → World → Prop} {a : Act} {w : World} (h1 : Region.wanted o (yielded l.toArray a.tmps) = true) (h2 : 2 ≤ x.1) (h3 : x.1 = 2 → S w)
 (h : o.wp P a w (fun a' w' => (x.1 = 2 → S w') ∧ K a' w') (Strict Q)) : OrdStep P l S Q x K a w := by
 refine ⟨o, ho, .inr ⟨h1, ?_⟩⟩
 obtain ⟨k, i⟩ := x
 rcases k with _ | _ | _ | n
 ·simp at h2
 ·simp at h2
 ·exact ⟨h3 rfl, Oper.wp_mono (fun _ _ h => ⟨h.1 rfl, h.2⟩) h⟩
 ·exact Oper.wp_mono (fun _ _ h => h.2) h
theorem execOp_defers (o : Oper) (a : Act) (ds : List Deferred) : execOp ({ a with defers := ds } : Act).eval o = execOp a.eval o := by
 have : ({ a with defers := ds } : Act).eval = a.eval := funext fun x => by cases x <;> rfl
 rw [this]
theorem Yv.at {k : Nat} {o oy : Oper} (hs : ∀ cs b, o.op ≠ .select cs b) (h1 : ∀ t, oy.dst = some t → t ∉ o.looksAt l.toArray) {a : Act} {w w1 : World} {v u : Value} {ds : List Deferred} (h : Yv P l S k o a w v) (hS : k = 1 → S w1) :
 Yv P l S k o (({ a with defers := ds } : Act).put oy.dst u) w1 v := by
 unfold Yv at *
 rw [wanted_put o _ oy.dst u h1, execOp_put o hs _ oy.dst u h1, execOp_defers]
 rcases h with h | ⟨h2, h3, h4, h5⟩
 ·exact .inl h
 ·exact .inr ⟨h2, h3, hS, h5⟩
theorem Yv.same {k : Nat} {o oy : Oper} (hs : ∀ cs b, o.op ≠ .select cs b) (h1 : ∀ t, oy.dst = some t → t ∉ o.looksAt l.toArray) {a : Act} {w : World} {v u : Value} {ds : List Deferred} :
 Yv P l S k o (({ a with defers := ds } : Act).put oy.dst u) w v ↔ Yv P l S k o a w v := by
 unfold Yv
 rw [wanted_put o _ oy.dst u h1, execOp_put o hs _ oy.dst u h1, execOp_defers]
theorem Yv.pure0 {o : Oper} {a : Act} {w w1 : World} {v : Value} (h : Yv P l S 0 o a w v) : Yv P l S 0 o a w1 v := by
 rcases h with h | ⟨h2, h3, h4, h5⟩
 ·exact .inl h
 ·exact .inr ⟨h2, h3, by simp, h5⟩
theorem okPair_one {k : Nat} (h : okPair 1 k = true) (h2 : 2 ≤ k) : k = 2 := by
 rcases k with _ | _ | _ | n <;> simp [okPair] at * 
theorem okPair_eff {j k : Nat} (h : okPair j k = true) (h2 : 2 ≤ j) : k = 0 := by
 rcases j with _ | _ | n
 ·simp at h2
 ·simp at h2
 ·rcases k with _ | k
  ·rfl
  ·simp [okPair] at h
theorem Yv.uniq {o : Oper} {k : Nat} {a : Act} {w w1 : World} {v v1 : Value} (h : Yv P l S k o a w v) (h1 : Yv P l S k o a w1 v1) : v = v1 := by
 rcases h with ⟨h2, rfl⟩ | ⟨h2, _, h3, h4⟩ <;> rcases h1 with ⟨g2, rfl⟩ | ⟨g2, _, g3, g4⟩
 ·rfl
 ·rw [h2] at g2; cases g2
 ·rw [h2] at g2; cases g2
 ·have e1 := h4 w h3
  have e2 := g4 w h3
  rw [e1] at e2; cases e2; rfl
theorem OrdStep.swap (hsel : Region.noSelect l.toArray = true) {x y : Nat × Nat} (hp : okPair x.1 y.1 = true) {ox oy : Oper} (hx : l[x.2]? = some ox) (hy : l[y.2]? = some oy)
 (h1 : ox.apart l.toArray oy = true) {K : Act → World → Prop} {a : Act} {w : World}
 (h : OrdStep P l S Q x (OrdStep P l S Q y K) a w) : OrdStep P l S Q y (OrdStep P l S Q x K) a w := by
 obtain ⟨p1, p2, p3⟩ := Oper.apart_spec h1
 have sx := Region.noSelect_spec hsel x.2 ox
 have sy := Region.noSelect_spec hsel y.2 oy
 have sx' : ∀ cs b, ox.op ≠ .select cs b := fun cs b => sx cs b (by simpa using hx)
 have sy' : ∀ cs b, oy.op ≠ .select cs b := fun cs b => sy cs b (by simpa using hy)
 rcases h.cases hx with ⟨v, hv, h⟩ | ⟨w1, w2, w3, w4⟩
 ·rcases h.cases hy with ⟨u, hu, h⟩ | ⟨u1, u2, u3, u4⟩
  ·have hu' : Yv P l S y.1 oy a w u := (Yv.same (ds := a.defers) sy' p1).1 hu
   refine hu'.step hy (((Yv.same (ds := a.defers) sx' p3).2 hv).step hx ?_)
   rw [← Act.put_comm a v u p2]; exact h
  ·rw [wanted_put oy a ox.dst v p1] at u1
   refine OrdStep.eff hy u1 u2 u3 ?_
   have h5 := wp_form (wp_unput sy' p1 p2 u4)
   refine Oper.wp_mono ?_ h5
   rintro a' w' ⟨⟨ds, u, rfl⟩, h6, h7⟩
   refine ⟨h6, (Yv.at sx' p3 hv (fun e => ?_)).step hx h7⟩
   rw [e] at hp
   exact h6 (okPair_one hp u2)
 ·have hy0 : y.1 = 0 := okPair_eff hp w2
  have h5 := wp_form w4
  have yields : ∀ a' w', (∃ ds u, a' = ({ a with defers := ds } : Act).put ox.dst u) → OrdStep P l S Q y K a' w' → ∃ v, Yv P l S 0 oy a w v ∧ K (a'.put oy.dst v) w' := by
   rintro a' w' ⟨ds, u, rfl⟩ h
   rcases h.cases hy with ⟨v, hv, h⟩ | ⟨_, u2, _⟩
   ·rw [hy0] at hv
    exact ⟨v, ((Yv.same sy' p1).1 hv).pure0, h⟩
   ·omega
  obtain ⟨a0, w0, hf, _, h0⟩ := wp_ex h5
  obtain ⟨v, hv, _⟩ := yields a0 w0 hf h0
  refine Yv.step hy (by rw [hy0]; exact hv) (OrdStep.eff hx (by rw [wanted_put ox a oy.dst v p3]; exact w1) w2 w3 (wp_put sx' p3 (fun t h e => p2 t e h) (Oper.wp_mono ?_ h5)))
  rintro a' w' ⟨hf, h6, h7⟩
  obtain ⟨v', hv', h8⟩ := yields a' w' hf h7
  rw [hv.uniq hv']
  exact ⟨h6, h8⟩
end
section
variable {P : Program} {l : List Oper} {S : World → Prop} {Q : Exit → Act → World → Prop}
theorem wpOrd.front (hsel : Region.noSelect l.toArray = true) {y : Nat × Nat} {post : List (Nat × Nat)} : ∀ (pre : List (Nat × Nat)),
 (∀ x ∈ pre, okPair x.1 y.1 = true ∧ ∃ ox oy, l[x.2]? = some ox ∧ l[y.2]? = some oy ∧ ox.apart l.toArray oy = true) → ∀ (a : Act) (w : World),
 wpOrd P l S Q (pre ++ y :: post) a w → OrdStep P l S Q y (wpOrd P l S Q (pre ++ post)) a w
 | [], _, _, _, h => h
 | x :: pre, hp, a, w, h => by
   obtain ⟨h1, ox, oy, h2, h3, h4⟩ := hp x (by simp)
   have ih := wpOrd.front (post := post) hsel pre (fun x hx => hp x (by simp [hx]))
   exact OrdStep.swap hsel h1 h2 h3 h4 (OrdStep.mono (show OrdStep P l S Q x (wpOrd P l S Q (pre ++ y :: post)) a w from h) ih)
def DownC (l : List Oper) (listed : Array Bool) : Prop :=
 ∀ k o, listed.getD k false = true → l[k]? = some o → ∀ e ∈ o.after, Region.binds .any e = true → listed.getD e.on false = true
theorem closure_listed {cl : List (List Nat)} (hc : closureOk l cl = true) {listed : Array Bool} (hd : DownC l listed) : ∀ (i : Nat) (o : Oper), i < l.length → l[i]? = some o →
 (∀ e ∈ o.after, Region.binds .any e = true → listed.getD e.on false = true) → ∀ j ∈ cl.getD i [], listed.getD j false = true := by
 intro i
 induction i using Nat.strongRecOn with
 | _ i ih =>
   intro o hi ho hl j hj
   simp only [closureOk, List.all_eq_true, List.mem_range] at hc
   have h := hc i hi j hj
   rw [ho] at h
   simp only [List.any_eq_true, Bool.and_eq_true, decide_eq_true_eq, Bool.or_eq_true, beq_iff_eq, List.contains_iff_mem] at h
   obtain ⟨e, he, ⟨hb, hlt⟩, hj⟩ := h
   have hel := hl e (by simpa using he) hb
   rcases hj with rfl | hj
   ·exact hel
   ·have hlt2 : e.on < l.length := by omega
    exact ih e.on hlt l[e.on] hlt2 (by simp [hlt2]) (fun e' he' hb' => hd e.on _ hel (by simp [hlt2]) e' he' hb') j hj
theorem exists_min : ∀ (r : List Nat), r ≠ [] → ∃ i ∈ r, ∀ j ∈ r, i ≤ j
 | [], h => absurd rfl h
 | [x], _ => ⟨x, by simp, by simp⟩
 | x :: y :: r, _ => by
   obtain ⟨i, hi, hm⟩ := exists_min (y :: r) (by simp)
   by_cases h : x ≤ i
   ·exact ⟨x, by simp, fun j hj => by
     rcases List.mem_cons.1 hj with rfl | hj
     ·omega
     ·have := hm j hj; omega⟩
   ·exact ⟨i, by simp [hi], fun j hj => by
     rcases List.mem_cons.1 hj with rfl | hj
     ·omega
     ·exact hm j hj⟩
structure OrdInv (l : List Oper) (r : List (Nat × Nat)) (listed : Array Bool) : Prop where
 size : listed.size = l.length
 lt : ∀ x ∈ r, x.2 < l.length
 nodup : (r.map (·.2)).Nodup
 left : ∀ i, i < l.length → (listed.getD i true = false ↔ i ∈ r.map (·.2))
 down : DownC l listed
 pairs : pairsOk l (closure l) r = true
theorem getD_bool {b : Array Bool} {i : Nat} (hi : i < b.size) (x y : Bool) : b.getD i x = b.getD i y := by simp [hi]
theorem pairsOk_app {cl : List (List Nat)} : ∀ (pre : List (Nat × Nat)) {y : Nat × Nat} {post : List (Nat × Nat)}, pairsOk l cl (pre ++ y :: post) = true →
 pairsOk l cl (pre ++ post) = true ∧ ∀ x ∈ pre, pairOk l cl x y = true
 | [], y, post, h => by
   simp only [List.nil_append, pairsOk, Bool.and_eq_true] at h
   exact ⟨h.2, by simp⟩
 | x :: pre, y, post, h => by
   simp only [List.cons_append, pairsOk, Bool.and_eq_true, List.all_eq_true] at h
   obtain ⟨h1, h2⟩ := h
   obtain ⟨h3, h4⟩ := pairsOk_app pre h2
   refine ⟨?_, fun z hz => ?_⟩
   ·simp only [List.cons_append, pairsOk, Bool.and_eq_true, List.all_eq_true]
    exact ⟨fun z hz => h1 z (by rcases List.mem_append.1 hz with h | h <;> simp [h]), h3⟩
   ·rcases List.mem_cons.1 hz with rfl | hz
    ·exact h1 y (by simp)
    ·exact h4 z hz
theorem wpAny_of_ord (hsel : Region.noSelect l.toArray = true) (hcl : closureOk l (closure l) = true) (hback : edgesBack l = true) : ∀ (m : Nat) (r : List (Nat × Nat)) (listed : Array Bool) (a : Act) (w : World),
 r.length = m → OrdInv l r listed → wpOrd P l S Q r a w → wpAny P .any l.toArray (Strict Q) m listed a w
 | 0, r, listed, a, w, hm, inv, h => by
   obtain rfl : r = [] := List.eq_nil_of_length_eq_zero hm
   refine ⟨List.eq_nil_iff_forall_not_mem.2 fun i hi => ?_, h⟩
   obtain ⟨h1, o, ho, _⟩ := mem_ready.1 hi
   have hlt : i < l.length := by
    have := (Array.getElem?_eq_some_iff.1 ho).1; simpa using this
   simpa using (inv.left i hlt).1 h1
 | m + 1, r, listed, a, w, hm, inv, h => by
   refine ⟨fun h0 => ?_, fun i hi => ?_⟩
   ·exfalso
    obtain ⟨i, hi, hmin⟩ := exists_min (r.map (·.2)) (by intro e; simp at e; rw [e] at hm; cases hm)
    obtain ⟨x, hx, rfl⟩ := List.mem_map.1 hi
    have hlt := inv.lt x hx
    have : x.2 ∈ Region.ready .any l.toArray listed := by
     refine mem_ready.2 ⟨(inv.left _ hlt).2 hi, l[x.2], by simp [hlt], fun e he hb => ?_⟩
     simp only [edgesBack, List.all_eq_true, List.mem_range] at hback
     have hb2 := hback x.2 hlt
     rw [List.getElem?_eq_getElem hlt] at hb2
     simp only [List.all_eq_true, Bool.or_eq_true, Bool.not_eq_true', decide_eq_true_eq] at hb2
     have hlt2 : e.on < x.2 := by
      rcases hb2 e (by simpa using he) with h | h
      ·rw [hb] at h; cases h
      ·exact h
     have hn : ¬ e.on ∈ r.map (·.2) := fun hh => by have := hmin _ hh; omega
     have := mt (inv.left e.on (by omega)).1 hn
     rw [getD_bool (by rw [inv.size]; omega) false true]
     simpa using this
    rw [h0] at this; cases this
   ·obtain ⟨h1, o, ho, hall⟩ := mem_ready.1 hi
    have hlt : i < l.length := by
     have := (Array.getElem?_eq_some_iff.1 ho).1; simpa using this
    have hol : l[i]? = some o := by simpa using ho
    obtain ⟨y, hy, rfl⟩ := List.mem_map.1 ((inv.left i hlt).1 h1)
    obtain ⟨pre, post, rfl⟩ := List.append_of_mem hy
    obtain ⟨hp1, hp2⟩ := pairsOk_app pre inv.pairs
    have hpre : ∀ x ∈ pre, okPair x.1 y.1 = true ∧ ∃ ox oy, l[x.2]? = some ox ∧ l[y.2]? = some oy ∧ ox.apart l.toArray oy = true := by
     intro x hx
     have hxy := hp2 x hx
     simp only [pairOk, Bool.or_eq_true, Bool.and_eq_true, List.contains_iff_mem] at hxy
     rcases hxy with hxy | ⟨h2, h3⟩
     ·exfalso
      have hl := closure_listed hcl inv.down y.2 o hlt hol hall x.2 hxy
      have hxl := inv.lt x (by simp [hx])
      have := (inv.left x.2 hxl).2 (by simp; exact .inl ⟨x.1, hx⟩)
      rw [getD_bool (by rw [inv.size]; exact hxl) true false, hl] at this
      cases this
     ·refine ⟨h2, ?_⟩
      have hxl := inv.lt x (by simp [hx])
      rw [hol, List.getElem?_eq_getElem hxl] at h3
      simp only [Bool.and_eq_true] at h3
      exact ⟨l[x.2], o, by simp [hxl], hol, h3.1⟩
    refine wpOp_mono (fun a' w' h' => ?_) ((wpOrd.front hsel pre hpre a w h).wpOp)
    refine wpAny_of_ord hsel hcl hback m _ _ _ _ (by simp at hm ⊢; omega) ⟨by simpa using inv.size, fun x hx => inv.lt x ?_, ?_, fun i hi => ?_, ?_, hp1⟩ h'
    ·rcases List.mem_append.1 hx with h | h <;> simp [h]
    ·have := inv.nodup
     simp only [List.map_append, List.map_cons] at this ⊢
     exact (List.nodup_cons.1 (List.perm_middle.nodup_iff.1 this)).2
    ·have hnd := inv.nodup
     simp only [List.map_append, List.map_cons] at hnd
     have hnd2 := (List.nodup_cons.1 (List.perm_middle.nodup_iff.1 hnd)).1
     by_cases e : y.2 = i
     ·subst e
      simp only [List.map_append]
      constructor
      ·intro hh; simp [inv.size, hlt] at hh
      ·intro hh; exact absurd hh hnd2
     ·rw [getD_set_ne true e, inv.left i hi]
      simp only [List.map_append, List.map_cons, List.mem_append, List.mem_cons]
      constructor
      ·rintro (h | h | h)
       ·exact .inl h
       ·exact absurd h.symm e
       ·exact .inr h
      ·rintro (h | h)
       ·exact .inl h
       ·exact .inr (.inr h)
    ·intro k ok hk hok e he hb
     by_cases e1 : y.2 = k
     ·subst e1
      rw [hol] at hok; cases hok
      exact getD_set_true (hall e he hb)
     ·have hk' : listed.getD k false = true := by rwa [getD_set_ne false e1] at hk
      exact getD_set_true (inv.down k ok hk' hok e he hb)
theorem wp_region_ord {id : Nat} {a : Act} {w : World} (S : World → Prop) (ord : List (Nat × Nat)) (hm : P.follows .mixedOrders = true) (hB : ordOk l ord = true)
 (h : wpOrd P l S Q ord a w.drew) : (Code.region id l.toArray true).wp P Q a w := by
 simp only [ordOk, Bool.and_eq_true, beq_iff_eq, List.all_eq_true, decide_eq_true_eq] at hB
 obtain ⟨⟨⟨⟨⟨⟨⟨h1, h2⟩, h8⟩, h3⟩, h4⟩, h5⟩, h6⟩, h7⟩ := hB
 refine Code.wp_mono Strict.imp (wp_region_any hm ?_)
 have := wpAny_of_ord (P := P) (S := S) (Q := Q) h1 h5 h6 ord.length ord (Array.replicate l.length false) a w.drew rfl ⟨by simp, h3, h4, fun i hi => ?_, fun k o hk => ?_, h7⟩ h
 ·rw [h2] at this
  simpa using this
 ·simp only [Array.getD_eq_getD_getElem?, Array.getElem?_replicate, hi, if_true, Option.getD_some, true_iff]
  have := h8 i (List.mem_range.2 hi)
  simpa using this
 ·exfalso
  simp [Array.getD_eq_getD_getElem?, Array.getElem?_replicate] at hk
  split at hk <;> simp at hk
end
section
variable {P : Program} {l : List Oper} {S : World → Prop} {Q : Exit → Act → World → Prop}
def valueOnly (op : Op) : Bool :=
 match op with
 | .move _ | .assign _ | .pick .. | .build .. | .load .. | .binOp .. | .unOp .. | .convert .. | .makeInterface .. | .makeFunc .. | .slice .. | .fieldAddr .. | .field .. | .indexAddr .. | .index .. | .lookup .. | .extract .. | .sliceToArrayPointer .. => true
 | .nilCheck _ => true
 | .call { callee := .builtin .len, .. } => true
 | .call { callee := .builtin .cap, .. } => true
 | _ => false
theorem val_run {s : Sem Value} {n : Next} {w w1 : World} (h : (do pure (Next.value (← s)) : Sem Next).run P w = .ok n w1) : ∃ v, n = .value v := by
 rw [Sem.run_bind] at h
 cases hs : s.run P w with
 | ok x w2 => simp [hs] at h; exact ⟨x, h.1.symm⟩
 | halt x w2 => simp [hs] at h
theorem bind_val {α : Type} {s : Sem α} {f : α → Sem Next} {n : Next} {w w1 : World} (hf : ∀ x w n w1, (f x).run P w = .ok n w1 → ∃ v, n = .value v) (h : (s >>= f).run P w = .ok n w1) : ∃ v, n = .value v := by
 rw [Sem.run_bind] at h
 cases hs : s.run P w with
 | ok x w2 => rw [hs] at h; exact hf _ _ _ _ h
 | halt x w2 => simp [hs] at h
theorem valueOnly_spec {o : Oper} {ρ : Operand → Value} {n : Next} {w w1 : World} (h : valueOnly o.op = true) (hr : (execOp ρ o).run P w = .ok n w1) : ∃ v, n = .value v := by
 unfold execOp at hr
 unfold valueOnly at h
 split at hr <;> first
  | exact val_run hr
  |(rename_i hop; simp [hop] at h; done)
  | skip
 ·simp at hr; exact ⟨_, hr.1.symm⟩
 ·simp at hr; exact ⟨_, hr.1.symm⟩
 ·rename_i c a b hop
  simp only [Sem.run_bind] at hr
  cases hs : (asBool (ρ c)).run P w with
  | ok x w2 => simp [hs] at hr; exact ⟨_, hr.1.symm⟩
  | halt x w2 => simp [hs] at hr
 ·rename_i x hop
  simp only [] at hr
  split at hr
  ·simp [runtimePanic, goPanic] at hr
  ·simp [runtimePanic, goPanic] at hr
  ·simp [runtimePanic, goPanic] at hr
  ·split at hr
   ·simp [runtimePanic, goPanic] at hr
   ·refine bind_val (fun x w n w1 hr => ?_) hr
    refine bind_val (fun x w n w1 hr => ?_) hr
    split at hr
    ·refine bind_val (fun x w n w1 hr => ?_) hr
     simp at hr; exact ⟨_, hr.1.symm⟩
    ·simp at hr; exact ⟨_, hr.1.symm⟩
   ·simp at hr; exact ⟨_, hr.1.symm⟩
  ·simp at hr; exact ⟨_, hr.1.symm⟩
 ·rename_i c hop
  rw [hop] at h
  simp only [] at hr
  obtain ⟨callee, args, ats⟩ := c
  cases callee with
  | value f => simp at h
  | invoke r m => simp at h
  | builtin b =>
    simp only [resolve, Sem.run_bind, Sem.run_pure, Result.andThen_ok, invoke] at hr
    cases b <;> first | (simp at h; done) | exact val_run hr
end
section
variable {P : Program} {l : List Oper} {S : World → Prop} {Q : Exit → Act → World → Prop} {i k : Nat} {r : List (Nat × Nat)} {o : Oper} {a : Act} {w : World}
theorem quiet_val (hc : valueOnly o.op = true) {C : World → Prop} {K : Act → Prop} (h : o.quiet P a C K) : ∃ v, (∀ w', C w' → (execOp a.eval o).run P w' = .ok (.value v) w') ∧ K (a.put o.dst v) := by
 obtain ⟨v, h1, h2⟩ := h
 refine ⟨v, fun w' hS => ?_, h2⟩
 have := h1 w' hS
 unfold Oper.quietAt at this
 generalize hr : (execOp a.eval o).run P w' = x at *
 cases x with
 | halt h w1 => exact this.elim
 | ok n w1 =>
   obtain ⟨v', rfl⟩ := valueOnly_spec hc hr
   simp only [Oper.quietUpon] at this
   obtain ⟨rfl, rfl⟩ := this; rfl
theorem ord_pure (ho : l[i]? = some o) (hw : Region.wanted o (yielded l.toArray a.tmps) = true) (hc : valueOnly o.op = true)
 (h : ∀ K : Act → Prop, (∀ a, wpOrd P l S Q r a w → K a) → o.quiet P a (fun _ => True) K) : wpOrd P l S Q ((0, i) :: r) a w := by
 obtain ⟨v, h1, h2⟩ := quiet_val hc (h _ (fun _ h => h))
 exact ⟨o, ho, .inr ⟨hw, v, fun w' => h1 w' trivial, h2⟩⟩
theorem ord_held (ho : l[i]? = some o) (hw : Region.wanted o (yielded l.toArray a.tmps) = true) (hc : valueOnly o.op = true) (hS : S w)
 (h : ∀ K : Act → Prop, (∀ a, wpOrd P l S Q r a w → K a) → o.quiet P a S K) : wpOrd P l S Q ((1, i) :: r) a w := by
 obtain ⟨v, h1, h2⟩ := quiet_val hc (h _ (fun _ h => h))
 exact ⟨o, ho, .inr ⟨hw, hS, v, h1, h2⟩⟩
theorem ord_skip (ho : l[i]? = some o) (hw : Region.wanted o (yielded l.toArray a.tmps) = false)
 (h : wpOrd P l S Q r (a.put o.dst undef) w) : wpOrd P l S Q ((k, i) :: r) a w := ⟨o, ho, .inl ⟨hw, h⟩⟩
theorem ord_keep (ho : l[i]? = some o) (hw : Region.wanted o (yielded l.toArray a.tmps) = true) (hS : S w)
 (h : ∀ K : Act → World → Prop, (∀ a w, S w → wpOrd P l S Q r a w → K a w) → o.wp P a w K (Strict Q)) : wpOrd P l S Q ((2, i) :: r) a w :=
 ⟨o, ho, .inr ⟨hw, hS, h _ (fun _ _ hs h => ⟨hs, h⟩)⟩⟩
theorem ord_drop (ho : l[i]? = some o) (hw : Region.wanted o (yielded l.toArray a.tmps) = true)
 (h : ∀ K : Act → World → Prop, (∀ a w, wpOrd P l S Q r a w → K a w) → o.wp P a w K (Strict Q)) : wpOrd P l S Q ((3, i) :: r) a w :=
 ⟨o, ho, .inr ⟨hw, h _ (fun _ _ h => h)⟩⟩
theorem ord_nil (h : Q .normal a w) : wpOrd P l S Q [] a w := h
end
end Go.Mine
