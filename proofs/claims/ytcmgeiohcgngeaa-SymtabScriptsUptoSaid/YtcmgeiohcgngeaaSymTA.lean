/-
  Both Puts, side by side.
-/
import Derived.Test.YtcmgeiohcgngeaaSymT9
namespace Go.Proofs.Ytcmgeiohcgngeaa
open Go Go.RowKit Go.Mine Go.Maps Go.Shelf
set_option linter.unusedVariables false
set_option maxHeartbeats 4000000
set_option maxRecDepth 100000

/-- the table has put them, the document's has not -/
structure Mid (W w1 : World) (T M B : Nat) (a' : Option Addr) (a2' : Option Addr) (c2' : Nat) (l' xs : List ByteArray) (oa : Option Addr) (oc : Nat) (b' : Option Addr) (d' : Nat) : Prop where
  tb : TbAt w1 T b' d' B (putT l' xs).2
  rb : RbAt w1 M a2' c2' l'
  got : Mine.Own w1 3 1 oa xs.length oc (nums (putT l' xs).1)
  mod : Mod (fun b => b = T ∨ blk a' = some b ∨ b = B) W w1
  f1 : ∀ b, blk b' = some b → blk a' = some b ∨ W.heap.size ≤ b
  f2 : ∀ b, blk oa = some b → W.heap.size ≤ b
  dg : ∀ b, blk oa = some b → ¬ (b = T ∨ blk b' = some b ∨ b = B)
theorem pr_put1 {W w1 : World} {T M B : Nat} {a' : Option Addr} {c' : Nat} {a2' : Option Addr} {c2' : Nat} {l' xs : List ByteArray} {e : Ending} (hp : PrAt W T M B a' c' a2' c2' l') (h : PutPost T a' B l' xs W e w1) :
    ∃ oa oc b' d', e = .returned (.tuple #[.slice oa xs.length oc, .int .i64 0]) ∧ Mid W w1 T M B a' a2' c2' l' xs oa oc b' d' := by
  obtain ⟨oa, oc, b', d', he, hF, hM, hf, ho⟩ := h
  have ht : TbAt w1 T b' d' B (putT l' xs).2 := hF.at_ _ (List.mem_cons_self ..)
  have hg : Mine.Own w1 3 1 oa xs.length oc (nums (putT l' xs).1) := hF.at_ _ (List.mem_cons_of_mem _ (List.mem_cons_self ..))
  have hd := (List.pairwise_cons.1 hF.dj).1 _ (List.mem_cons_self ..)
  exact ⟨oa, oc, b', d', he, ht, hp.rb.mod hM (fun h => hp.dj M h (.inl rfl)) (fun b hb h => hp.dj b h (.inr hb)), hg, hM, hf, ho, fun b hb h => hd b h hb⟩
/-- both have -/
structure Both (W w2 : World) (T M B : Nat) (a' a2' : Option Addr) (l' xs : List ByteArray) (oa : Option Addr) (oc : Nat) (ob : Option Addr) (od : Nat) (b' : Option Addr) (d' : Nat) (b2 : Option Addr) (d2 : Nat) : Prop where
  pr : PrAt w2 T M B b' d' b2 d2 (putT l' xs).2
  got : Mine.Own w2 3 1 oa xs.length oc (nums (putT l' xs).1)
  said : Mine.Own w2 3 1 ob xs.length od (nums (putT l' xs).1)
  mod : Mod (PrF T M B a' a2') W w2
  f1 : ∀ b, PrF T M B b' b2 b → PrF T M B a' a2' b ∨ W.heap.size ≤ b
  f2 : ∀ b, blk oa = some b → W.heap.size ≤ b ∧ ¬ PrF T M B b' b2 b
theorem pr_put2 {W w1 w2 : World} {T M B : Nat} {a' : Option Addr} {c' : Nat} {a2' : Option Addr} {c2' : Nat} {l' xs : List ByteArray} {oa : Option Addr} {oc : Nat} {b' : Option Addr} {d' : Nat} {e : Ending} (hp : PrAt W T M B a' c' a2' c2' l') (hm : Mid W w1 T M B a' a2' c2' l' xs oa oc b' d') (h : RPutPost M a2' l' xs w1 e w2) :
    ∃ ob od b2 d2, e = .returned (.tuple #[.slice ob xs.length od, .int .i64 0]) ∧ Both W w2 T M B a' a2' l' xs oa oc ob od b' d' b2 d2 := by
  obtain ⟨ob, od, b2, d2, he, hF, hM, hf, ho⟩ := h
  have ht : RbAt w2 M b2 d2 (putT l' xs).2 := hF.at_ _ (List.mem_cons_self ..)
  have hg : Mine.Own w2 3 1 ob xs.length od (nums (putT l' xs).1) := hF.at_ _ (List.mem_cons_of_mem _ (List.mem_cons_self ..))
  have hsz := hm.mod.size
  have hMl : M < W.heap.size := hp.lt (.inr (.inl rfl))
  have hTl : T < W.heap.size := hp.lt (.inl (.inl rfl))
  have hBl : B < W.heap.size := hp.lt (.inl (.inr (.inr rfl)))
  have ha2 : ∀ b, blk a2' = some b → b < W.heap.size := fun b hb => hp.lt (.inr (.inr hb))
  have ha1 : ∀ b, blk b' = some b → b < w1.heap.size := hm.tb.own.lt
  have hgl : ∀ b, blk oa = some b → b < w1.heap.size := hm.got.lt
  have k1 : ∀ b, blk b' = some b → ¬ (b = M ∨ blk a2' = some b) := fun b hb hs => by
    rcases hm.f1 b hb with h | h
    · exact hp.dj b (.inr (.inl h)) hs
    · rcases hs with e | e
      · omega
      · have := ha2 b e; omega
  have ht2 : TbAt w2 T b' d' B (putT l' xs).2 := hm.tb.mod hM (fun h => hp.dj T (.inl rfl) h) k1 (fun h => hp.dj B (.inr (.inr rfl)) h)
  have hg2 : Mine.Own w2 3 1 oa xs.length oc (nums (putT l' xs).1) := hm.got.mod hM (fun b hb hs => by
    have h1 := hm.f2 b hb
    rcases hs with e | e
    · omega
    · have := ha2 b e; omega)
  refine ⟨ob, od, b2, d2, he, ⟨ht2, ht, fun b hb hs => ?_⟩, hg2, hg, (hm.mod.mono (fun _ _ h => .inl h)).step hM (fun b hb h => .inr h), fun b hb => ?_, fun b hb => ⟨hm.f2 b hb, fun hs => ?_⟩⟩
  · rcases hs with e | e
    · subst e
      rcases hb with e | e | e
      · exact hp.dj _ (.inl e) (.inl rfl)
      · exact k1 _ e (.inl rfl)
      · exact hp.dj _ (.inr (.inr e)) (.inl rfl)
    · rcases hf b e with h | h
      · rcases hb with e2 | e2 | e2
        · exact hp.dj _ (.inl e2) (.inr h)
        · exact k1 _ e2 (.inr h)
        · exact hp.dj _ (.inr (.inr e2)) (.inr h)
      · rcases hb with e2 | e2 | e2
        · omega
        · have := ha1 b e2; omega
        · omega
  · rcases hb with (e | e | e) | (e | e)
    · exact .inl (.inl (.inl e))
    · rcases hm.f1 b e with h | h
      · exact .inl (.inl (.inr (.inl h)))
      · exact .inr h
    · exact .inl (.inl (.inr (.inr e)))
    · exact .inl (.inr (.inl e))
    · rcases hf b e with h | h
      · exact .inl (.inr (.inr h))
      · exact .inr (by omega)
  · rcases hs with h | e | e
    · exact hm.dg b hb h
    · have := hm.f2 b hb; omega
    · rcases hf b e with h | h
      · have h1 := hm.f2 b hb; have := ha2 b h; omega
      · have := hgl b hb; omega
end Go.Proofs.Ytcmgeiohcgngeaa
