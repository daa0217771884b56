/-
  own: a rule in memory of its own.
-/
import Derived.Test.YtgplagdehfhffaaDoorOwn
namespace Go.Proofs.YtgplagdehfhffaaDoor
open Go Go.RowKit Go.Mine
set_option linter.unusedVariables false
set_option maxHeartbeats 8000000
set_option maxRecDepth 100000

def lM : Lm := ⟨-77, ⟨⟨#[]⟩, []⟩, 0, ⟨0, ⟨#[]⟩⟩, ⟨0, ⟨#[]⟩⟩⟩
/-- a literal, the block of its terms, and its room -/
abbrev X3 := Lm × Nat × Nat
def x3V (x : X3) : Lm × Value := (x.1, .slice (some ⟨x.2.1, 0, none⟩) x.1.atom.terms.length x.2.2)
def xsV (xs : List X3) : List (Lm × Value) := xs.map x3V
@[simp] theorem xsV_length (xs : List X3) : (xsV xs).length = xs.length := by simp [xsV]
def OwnL (w : World) (g c : Nat) (xs : List X3) : Prop := Mine.Own w 62 8 (some ⟨g, 0, none⟩) (xs.length + 1) c (lmsC (xsV xs ++ [(lM, .slice none 0 0)]))
def blks (xs : List X3) : List Nat := xs.map fun x => x.2.1
structure OwnR (w : World) (S : Nat → Prop) (r : Rm) (gh ch gb cb : Nat) (xs : List X3) : Prop where
  hx : xs.map Prod.fst = r.body
  head : OwnT w gh ch r.head.terms
  body : OwnL w gb cb xs
  terms : ∀ x ∈ xs, OwnT w x.2.1 x.2.2 x.1.atom.terms
  nd : (gh :: gb :: blks xs).Nodup
  inS : ∀ b ∈ gh :: gb :: blks xs, S b
theorem lmsC_one8 (us : List Value) (h : us.all Value.oneCell' = true) : us.all Value.oneCell' = true := h
/-- what own has gathered so far -/
structure Gath (w wr : World) (lo : Nat) (gh ch : Nat) (hts : List Tm) (ls : List Lm) (k : Nat) (a : Option Addr) (c : Nat) (xs : List X3) : Prop where
  hx : xs.map Prod.fst = ls.take k
  own : Mine.Own wr 62 8 a k c (lmsC (xsV xs))
  head : OwnT wr gh ch hts
  terms : ∀ x ∈ xs, OwnT wr x.2.1 x.2.2 x.1.atom.terms
  nd : (gh :: blks xs).Nodup
  far : ∀ b ∈ gh :: blks xs, lo ≤ b ∧ b < wr.heap.size ∧ blk a ≠ some b
  la : ∀ b, blk a = some b → lo ≤ b
  mod : Mod (fun _ => False) w wr
theorem Gath.step {w wr v3 w4 : World} {lo gh ch : Nat} {hts : List Tm} {ls : List Lm} {k c c4 g cg : Nat} {a a4 : Option Addr} {xs : List X3} {t : Lm} (h : Gath w wr lo gh ch hts ls k a c xs) (hk : k < ls.length) (ht : ls[k] = t) (hlo : w.heap.size ≤ lo) (hlw : lo ≤ wr.heap.size)
    (m : Mod (fun _ => False) wr v3) (hT : OwnT v3 g cg t.atom.terms) (hg : wr.heap.size ≤ g)
    (hO : Mine.Own w4 62 8 a4 (k + 1) c4 (lmsC (xsV xs) ++ lmC (x3V (t, g, cg)))) (hG : Grow v3 a w4 a4) : Gath w w4 lo gh ch hts ls (k + 1) a4 c4 (xs ++ [(t, g, cg)]) := by
  have hal : ∀ b, blk a = some b → b < wr.heap.size := h.own.lt
  have hm4 : ∀ b, b < wr.heap.size → blk a ≠ some b → ∀ cs ts, OwnT wr b cs ts → OwnT w4 b cs ts := fun b hb hne cs ts ho => (ho.mod m id).mod hG.mod hne
  have hgl := hT.lt
  have hga : blk a ≠ some g := fun e => by have := hal g e; omega
  have hsz := hG.mod.size
  have hsz2 := m.size
  have hne4 : ∀ b, b < v3.heap.size → blk a ≠ some b → blk a4 ≠ some b := fun b hb hne => hG.ne hb hne
  refine ⟨?_, ?_, ?_, ?_, ?_, ?_, ?_, ?_⟩
  · rw [List.map_append, h.hx, List.take_succ_eq_append_getElem hk, ht]; rfl
  · unfold xsV; rw [List.map_append, lmsC_append]; exact hO
  · have := h.far gh (List.mem_cons_self ..)
    exact hm4 gh this.2.1 this.2.2 _ _ h.head
  · intro x hx
    rcases List.mem_append.1 hx with hx | hx
    · have := h.far x.2.1 (List.mem_cons_of_mem _ (List.mem_map.2 ⟨x, hx, rfl⟩))
      exact hm4 _ this.2.1 this.2.2 _ _ (h.terms x hx)
    · simp at hx; subst hx
      exact hT.mod hG.mod hga
  · have e : gh :: blks (xs ++ [(t, g, cg)]) = (gh :: blks xs) ++ [g] := by simp [blks]
    rw [e, List.nodup_append]
    refine ⟨h.nd, by simp, fun b hb b' hb' => ?_⟩
    simp at hb'; subst hb'
    have := (h.far b hb).2.1
    omega
  · have e : gh :: blks (xs ++ [(t, g, cg)]) = (gh :: blks xs) ++ [g] := by simp [blks]
    rw [e]
    intro b hb
    rcases List.mem_append.1 hb with hb | hb
    · have := h.far b hb
      exact ⟨this.1, by omega, hne4 b (by omega) this.2.2⟩
    · simp at hb; subst hb
      exact ⟨by omega, by omega, hne4 b hgl hga⟩
  · intro b hb
    rcases hG.pos with e | ⟨g', e, hg'⟩
    · rw [e] at hb; exact h.la b hb
    · rw [e] at hb; cases hb; omega
  · exact (h.mod.trans m).step hG.mod (fun i hi hs => by have := h.la i hs; omega)
theorem Gath.fin {w wr v3 w4 : World} {lo gh ch : Nat} {hts : List Tm} {pr : ByteArray} {ls : List Lm} {c cb gb : Nat} {a : Option Addr} {xs : List X3} (h : Gath w wr lo gh ch hts ls ls.length a c xs) (hlo : w.heap.size ≤ lo) (hlw : lo ≤ wr.heap.size)
    (m : Mod (fun _ => False) wr v3) (hO : Mine.Own w4 62 8 (some ⟨gb, 0, none⟩) (ls.length + 1) cb (lmsC (xsV xs) ++ lmC (lM, .slice none 0 0))) (hG : Grow v3 a w4 (some ⟨gb, 0, none⟩)) :
    OwnR w4 (fun b => lo ≤ b ∧ b < w4.heap.size) ⟨⟨pr, hts⟩, ls⟩ gh ch gb cb xs ∧ Mod (fun _ => False) w w4 := by
  have hm4 : ∀ b, b < wr.heap.size → blk a ≠ some b → ∀ cs ts, OwnT wr b cs ts → OwnT w4 b cs ts := fun b hb hne cs ts ho => (ho.mod m id).mod hG.mod hne
  have hsz := hG.mod.size
  have hsz2 := m.size
  have hgb4 : gb < w4.heap.size := hO.lt gb rfl
  have hgbl : lo ≤ gb := by
    rcases hG.pos with e | ⟨g', e, hg'⟩
    · exact h.la gb e.symm
    · simp at e; omega
  have hlen : xs.length = ls.length := by
    have := congrArg List.length h.hx
    simpa using this
  have hne : ∀ b ∈ gh :: blks xs, b ≠ gb := fun b hb e => by
    have h2 := h.far b hb
    exact hG.ne (b := b) (by omega) h2.2.2 (by rw [e]; rfl)
  refine ⟨⟨?_, ?_, ?_, ?_, ?_, ?_⟩, (h.mod.trans m).step hG.mod (fun i hi hs => by have := h.la i hs; omega)⟩
  · rw [h.hx, List.take_length]
  · have := h.far gh (List.mem_cons_self ..)
    exact hm4 gh this.2.1 this.2.2 _ _ h.head
  · unfold OwnL; rw [hlen, lmsC_append]; exact hO
  · intro x hx
    have := h.far x.2.1 (List.mem_cons_of_mem _ (List.mem_map.2 ⟨x, hx, rfl⟩))
    exact hm4 _ this.2.1 this.2.2 _ _ (h.terms x hx)
  · have hnd := h.nd
    rw [List.nodup_cons] at hnd ⊢
    rw [List.nodup_cons]
    refine ⟨fun hm => ?_, fun hm => hne gb (List.mem_cons_of_mem _ hm) rfl, hnd.2⟩
    rcases List.mem_cons.1 hm with e | hm
    · exact hne gh (List.mem_cons_self ..) e
    · exact hnd.1 hm
  · intro b hb
    rcases List.mem_cons.1 hb with rfl | hb
    · have := h.far b (List.mem_cons_self ..); exact ⟨this.1, by omega⟩
    · rcases List.mem_cons.1 hb with rfl | hb
      · exact ⟨hgbl, hgb4⟩
      · have := h.far b (List.mem_cons_of_mem _ hb); exact ⟨this.1, by omega⟩
theorem OwnR.mod {S T : Nat → Prop} {w w' : World} {r : Rm} {gh ch gb cb : Nat} {xs : List X3} (h : OwnR w S r gh ch gb cb xs) (m : Mod T w w') (hs : ∀ b, S b → ¬ T b) : OwnR w' S r gh ch gb cb xs :=
  ⟨h.hx, h.head.mod m (hs _ (h.inS gh (List.mem_cons_self ..))), Mine.Own.mod h.body m (fun b hb => by cases hb; exact hs _ (h.inS gb (List.mem_cons_of_mem _ (List.mem_cons_self ..)))),
    fun x hx => (h.terms x hx).mod m (hs _ (h.inS _ (List.mem_cons_of_mem _ (List.mem_cons_of_mem _ (List.mem_map.2 ⟨x, hx, rfl⟩))))), h.nd, h.inS⟩
theorem OwnR.mono {S T : Nat → Prop} {w : World} {r : Rm} {gh ch gb cb : Nat} {xs : List X3} (h : OwnR w S r gh ch gb cb xs) (hs : ∀ b, S b → T b) : OwnR w T r gh ch gb cb xs :=
  ⟨h.hx, h.head, h.body, h.terms, h.nd, fun b hb => hs b (h.inS b hb)⟩
end Go.Proofs.YtgplagdehfhffaaDoor
