/-
  lex.Scan: its contract.
-/
import Derived.Test.YteecbbnpgmceiaaDoorEach
namespace Go.Mine
open Go Go.RowKit
theorem Mod.ofGrown {W W' : World} {row : Option Nat} (hg : W.grownBy W' row) : Mod (fun k => row = some k) W W' :=
  ⟨hg.os, hg.tape, hg.output, hg.size, fun k hk hs => hg.block k hk (fun e => hs e.symm)⟩
/-- what lies in cells lies there still, where a block that holds no cells has turned -/
theorem cells_ne {W : World} {row : Option Nat} (hr : ∀ r, row = some r → ∃ o : Obj, W.heap[r]? = some o ∧ o.isCells = false) {b : Nat} {cs : Array Value} {t : TypeId} {fz : Nat × Nat} (h : W.heap[b]? = some (.cells cs t fz)) : row ≠ some b := by
  intro e
  obtain ⟨o, ho, hc⟩ := hr b e
  rw [h] at ho; cases ho; simp [Obj.isCells] at hc
theorem Own.blk_cells {w : World} {e : TypeId} {k : Nat} {a : Option Addr} {n c : Nat} {xs : List Value} (h : Own w e k a n c xs) : ∀ b, blk a = some b → ∃ cur, w.heap[b]? = some (.cells cur e (0, 0)) := by
  intro b hb
  rcases h.2 with ⟨rfl, _⟩ | ⟨b', cur, rfl, hg, _⟩
  · simp at hb
  · simp at hb; subst hb; exact ⟨cur, hg⟩
theorem Own.turned {W W' : World} {row : Option Nat} {e : TypeId} {k : Nat} {a : Option Addr} {n c : Nat} {xs : List Value} (h : Own W e k a n c xs) (hg : W.grownBy W' row) (hr : ∀ r, row = some r → ∃ o : Obj, W.heap[r]? = some o ∧ o.isCells = false) : Own W' e k a n c xs :=
  h.mod (Mod.ofGrown hg) (fun b hb hs => by obtain ⟨cur, hc⟩ := h.blk_cells b hb; exact cells_ne hr hc hs)
theorem bx_turned {W W' : World} {row : Option Nat} {B : Nat} {t : TypeId} {v : Value} (h : Boxed W B t v) (hg : W.grownBy W' row) (hr : ∀ r, row = some r → ∃ o : Obj, W.heap[r]? = some o ∧ o.isCells = false) : Boxed W' B t v :=
  (Mod.ofGrown hg).at h (fun hs => cells_ne hr h hs)
theorem bx_mod {S : Nat → Prop} {W W' : World} {B : Nat} {t : TypeId} {v : Value} (h : Boxed W B t v) (m : Mod S W W') (hs : ¬ S B) : Boxed W' B t v := m.at h hs
theorem bx_put {W : World} {B : Nat} {t : TypeId} {v : Value} (h : Boxed W B t v) (u : Value) : Boxed (W.setCell ⟨B, 0, none⟩ u) B t u := by
  have := heap_setCell_at (j := 0) u h
  unfold Boxed
  simpa using this
theorem Mod.turned {S : Nat → Prop} {w W W' : World} {row : Option Nat} (h : Mod S w W) (hg : W.grownBy W' row) (hr : ∀ r, row = some r → w.heap.size ≤ r) : Mod S w W' :=
  h.step (Mod.ofGrown hg) (fun i hi e => by have := hr i e; omega)
theorem keepsFrom_mod {S : Nat → Prop} {B : Nat} {W W' : World} (h : Mod S W W') (hs : ∀ k, S k → ∀ o : Obj, W.heap[k]? = some o → o.isCells = true) : KeepsFrom B W W' :=
  ⟨h.size, fun k o _ hk ho => h.at hk (fun s => by rw [hs k s o hk] at ho; cases ho)⟩
theorem tabs_lt {w : World} (h : Lib.Utf8Tabs 1 2 w) : 2 < w.heap.size := World.block_lt_of_cell? w _ (h.2 0 (by omega)).1

end Go.Mine
namespace Go.Proofs.YteecbbnpgmceiaaDoor
open Go Go.RowKit Go.Mine
set_option maxHeartbeats 4000000
set_option maxRecDepth 100000
set_option linter.unusedVariables false

def tokC (t : Tok) : List Value := [.int .i64 t.kind, .string t.text, .int .i64 t.at_]
def toksC (l : List Tok) : List Value := l.flatMap tokC
@[simp] theorem toksC_length (l : List Tok) : (toksC l).length = l.length * 3 := by
  induction l with
  | nil => rfl
  | cons t l ih =>
    have e : toksC (t :: l) = tokC t ++ toksC l := rfl
    rw [e, List.length_append, ih, List.length_cons]
    show 3 + _ = _
    omega
theorem toksC_append (l m : List Tok) : toksC (l ++ m) = toksC l ++ toksC m := by simp [toksC]
theorem scanGo_len (s : ByteArray) : ∀ (f i : Nat), (scanGo s f i).1.length ≤ f
  | 0, i => by simp [scanGo]
  | f + 1, i => by
    rw [scanGo]
    have h1 := scanGo_len s f (i + 1)
    have h2 := scanGo_len s f (cmtE s i)
    have h3 := scanGo_len s f (quoteE s (i + 1)).2.1
    have h4 := scanGo_len s f (wordL s i).2
    have h5 := scanGo_len s f (i + (markL (s.data.toList.drop i)).2)
    repeat' split
    all_goals (try simp only [tcons, List.length_cons, List.length_nil])
    all_goals omega
theorem foundL_len (s : ByteArray) : (foundL s).1.length ≤ s.size + 1 := by
  unfold foundL
  split
  · simp
  · exact scanGo_len s _ _
theorem seqOf_len (r : List Tok × Nat × Nat) : (seqOf r).length ≤ r.1.length + 1 := by
  unfold seqOf
  rw [List.length_append, List.length_map]
  split <;> simp
theorem seq_ok {ts : List Tok} {r : List Tok × Nat × Nat} (h : ts.map (fun t => (t, 0)) = seqOf r) : r.2.2 = 0 ∧ r.1 = ts := by
  unfold seqOf at h
  by_cases h0 : r.2.2 = 0
  · rw [if_pos h0, List.append_nil] at h
    refine ⟨h0, ?_⟩
    have := congrArg (List.map Prod.fst) h
    rw [List.map_map, List.map_map] at this
    have e : ∀ l : List Tok, l.map (Prod.fst ∘ fun x => (x, 0)) = l := fun l => by
      have : (Prod.fst ∘ fun x : Tok => (x, 0)) = id := rfl
      rw [this, List.map_id]
    rw [e, e] at this
    exact this.symm
  · rw [if_neg h0] at h
    have hm : ((⟨0, ⟨#[]⟩, r.2.1⟩, r.2.2) : Tok × Nat) ∈ ts.map (fun t => (t, 0)) := by rw [h]; simp
    obtain ⟨t, _, ht⟩ := List.mem_map.1 hm
    exact absurd (congrArg Prod.snd ht).symm h0
theorem seq_err {ts : List Tok} {t : Tok} {e : Nat} {r : List Tok × Nat × Nat} (h : ts.map (fun t => (t, 0)) ++ [(t, e)] <+: seqOf r) (he : e ≠ 0) : r.2.2 = e ∧ r.2.1 = t.at_ := by
  have hm : (t, e) ∈ seqOf r := h.subset (by simp)
  unfold seqOf at hm
  rcases List.mem_append.1 hm with hm | hm
  · obtain ⟨t', _, ht⟩ := List.mem_map.1 hm
    exact absurd (congrArg Prod.snd ht).symm he
  · split at hm
    · simp at hm
    · simp at hm
      obtain ⟨rfl, rfl⟩ := hm
      exact ⟨rfl, rfl⟩
/-- what Scan answers -/
def scanR (r : List Tok × Nat × Nat) : List Tok × Nat × Nat := if r.2.2 = 0 then (r.1, 0, 0) else ([], r.2.1, r.2.2)

@[local go_sem, local simp] theorem wide_fn2 (f : FuncId) : Fence.wide.fn f = True := rfl
@[local go_sem, local simp] theorem wide_depth2 : Fence.wide.depth = none := rfl

end Go.Proofs.YteecbbnpgmceiaaDoor
