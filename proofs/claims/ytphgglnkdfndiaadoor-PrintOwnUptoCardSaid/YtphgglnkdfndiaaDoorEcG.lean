/-
  In a round of a range over a function: a region that draws its order, walked in one order; append to a slice of the call's own.
-/
import Derived.Test.YtphgglnkdfndiaaDoorOrd
import Derived.RangeFuncNested
import Derived.RangeFuncBound
import Derived.RangeFuncCalls
import Derived.RangeFuncLeaves
import Derived.Shelf.Abstract
import Derived.Shelf.RegionOpen
import Derived.OwnWalkIn
import Derived.TacticsInMore
import Derived.LoopNIn
import Derived.LoopIn
import Derived.Test.YtphgglnkdfndiaaDoorLexG
import Derived.Test.YtphgglnkdfndiaaDoorWrdG
namespace Go.Mine
open Go Go.RowKit

/-- every activation's fence in a round: nothing is asked of a machine -/
abbrev inR (r : Nat) : Fence := Fence.wide.inRound r

section
variable {P : Program} {S : World → Prop} {Q : Exit → Act → World → Prop} {r n : Nat}
theorem rowsIn_of {row : String} {args : Array Value} {w : World} {R : Value → World → Prop} (h : Rows P row args w R) : RowsIn (inR r) n P row args w R := by
  intro c cs _
  obtain ⟨v, w', hR, hs⟩ := h c cs
  exact ⟨v, w', hR, stepsIn_wide.2 hs⟩
def noDefer (o : Oper) : Bool := match o.op with
  | .defer .. => false
  | _ => true
theorem semAt_noDefer {o : Oper} (h : noDefer o = true) (ρ : Operand → Value) (x : Option Nat) : o.semAt x ρ = execOp ρ o := by
  cases x with
  | none => rfl
  | some l =>
    refine Oper.semAt_some l ρ o fun c hc => ?_
    unfold noDefer at h
    rw [hc] at h
    cases h
/-- an operation goes in a round as anywhere -/
theorem oper_wpIn {o : Oper} (hd : noDefer o = true) {a : Act} {w : World} {K : Act → World → Prop} (h : o.wp P a w K (Strict Q)) : o.wpIn (inR r) n P a w K Q := by
  unfold Oper.wp at h
  refine ⟨fun _ _ => trivial, ?_⟩
  show o.uponIn (inR r) n P a K Q ((o.semAt (some r) a.eval).run P w)
  rw [semAt_noDefer hd]
  generalize (execOp a.eval o).run P w = x at *
  cases x with
  | ok y w' =>
    cases y <;> simp only [Oper.upon, Oper.uponIn] at *
    case value => exact h
    case skip => exact h
    case defer => exact h
    case enter =>
      refine ⟨fun h0 => ?_, CallsIn.inRound r (callsIn_wide.2 (h.mono ?_))⟩
      · cases h0
      · intro e w2 he
        cases e with
        | returned v => exact he
        | panicked c => exact (he : False).elim
        | outgrown => obtain ⟨a', w', hh⟩ := he; exact (hh : False).elim
    case row =>
      exact ⟨fun h0 => (by cases h0), rowsIn_of h⟩
  | halt y w' =>
    cases y <;> simp only [Oper.upon, Oper.uponIn] at *
    all_goals exact (h : False).elim
theorem wpOpsIn_of_wpOps {ops : Array Oper} (hd : ∀ (i : Nat) (o : Oper), ops[i]? = some o → noDefer o = true) : ∀ (l : List Nat) (a : Act) (w : World), wpOps P ops (Strict Q) l a w → wpOpsIn (inR r) n P ops Q l a w
  | [], a, w, h => h
  | i :: rest, a, w, h => by
    simp only [wpOps, wpOpsIn] at *
    cases ho : ops[i]? with
    | none => rw [ho] at h; exact wpOpsIn_of_wpOps hd rest a w h
    | some o =>
      rw [ho] at h
      simp only at *
      split
      · rename_i hw
        rw [if_pos hw] at h
        rcases h with h | ⟨_, a', w', hh⟩
        · exact Oper.wpIn_mono (fun a' w' h => wpOpsIn_of_wpOps hd rest a' w' h) (oper_wpIn (hd i o ho) h)
        · exact (hh : False).elim
      · rename_i hw
        rw [if_neg hw] at h
        exact ⟨fun _ _ => trivial, wpOpsIn_of_wpOps hd rest _ w h⟩
/-- A REGION THAT DRAWS ITS ORDER, in a round, walked in one order -/
theorem wpIn_region_ord {l : List Oper} {id : Nat} {a : Act} {w : World} (S : World → Prop) (ord : List (Nat × Nat)) (hm : P.follows .mixedOrders = true) (hB : ordOk l ord = true) (hD : l.all noDefer = true)
    (h : wpOrd P l S Q ord a w.drew) : (Code.region id l.toArray true).wpIn (inR r) n P Q a w := by
  simp only [ordOk, Bool.and_eq_true, beq_iff_eq, List.all_eq_true, decide_eq_true_eq] at hB hD
  obtain ⟨⟨⟨⟨⟨⟨⟨h1, h2⟩, h8⟩, h3⟩, h4⟩, h5⟩, h6⟩, h7⟩ := hB
  have := wpAny_of_ord (P := P) (S := S) (Q := Q) h1 h5 h6 ord.length ord (Array.replicate l.length false) a w.drew rfl ⟨by simp, h3, h4, fun i hi => ?_, fun k o hk => ?_, h7⟩ h
  · rw [h2] at this
    refine wpIn_region_draw fun t => ?_
    simp only [Region.schedule, hm, Bool.true_or, if_true]
    refine wpOpsIn_of_wpOps (fun i o ho => hD o (List.mem_of_getElem? (by simpa using ho))) _ _ _ ?_
    have h9 := wpAny_sound (md := .any) (ops := l.toArray) l.toArray.size t (Array.replicate l.toArray.size false) a w.drew (by simpa using this)
    exact h9
  · simp only [Array.getD_eq_getD_getElem?, Array.getElem?_replicate, hi, if_true, Option.getD_some, true_iff]
    have := h8 i (List.mem_range.2 hi)
    simpa using this
  · exfalso
    simp [Array.getD_eq_getD_getElem?, Array.getElem?_replicate] at hk
    split at hk <;> simp at hk

/-- append to a slice of the call's own, in a round -/
theorem wpLI_append {F : Fence} (hF : ∀ f, F.fn f) {w : World} {ops : Array Oper} {rest : List Oper} {o : Oper} {A : Act} {Q : Exit → Act → World → Prop} (hgd : o.guard = none) (s x : Operand) (t tx : TypeId)
    (ho : o.op = .call { callee := .builtin .append, args := #[s, x], argTypes := #[t, tx] }) {e : TypeId} {k bytes : Nat} (ti : TI P t e k bytes)
    {a : Option Addr} {n0 c : Nat} {xs : List Value} (hs : A.eval s = .slice a n0 c) (h : Own w e k a n0 c xs)
    {xv : Value} {m : Nat} {news : List Value} (hx : A.eval x = xv) (hsrc : Src P k tx xv m news w) (hb : (n0 + m) * bytes ≤ 140737488355328) (h63 : n0 + m ≤ maxLen)
    (hk : ∀ a' c' w', Own w' e k a' (n0 + m) c' (xs ++ news) → Grow w a w' a' → (a' = none → n0 + m = 0) →
      wpListIn F n P ops Q rest (A.put o.dst (.slice a' (n0 + m) c')) w') : wpListIn F n P ops Q (o :: rest) A w :=
  wpListIn_plain hgd fun _ hK => by
    obtain ⟨a', c', w', hr, h2, h3, h4, h5⟩ := run_append_mine (ty := o.type) ti h hsrc hb h63
    refine ⟨fun f _ => hF f, ?_⟩
    have hd : noDefer o = true := by unfold noDefer; rw [ho]
    rw [semAt_noDefer hd]
    unfold execOp
    simp only [ho, resolve, invoke, builtin, Sem.run_bind, Sem.run_pure, Result.andThen_ok, List.map_toArray, List.map_cons, List.map_nil, hs, hx, hr]
    exact hK _ _ (hk a' c' w' h2 ⟨h3, h4⟩ h5)
theorem wpLI_appendN {F : Fence} (hF : ∀ f, F.fn f) {w : World} {ops : Array Oper} {rest : List Oper} {o : Oper} {A : Act} {Q : Exit → Act → World → Prop} (hgd : o.guard = none) (s x : Operand) (t : TypeId)
    (ho : o.op = .call { callee := .builtin .append, args := #[s, x], argTypes := #[t, t] }) {e : TypeId} {k bytes : Nat} (ti : TI P t e k bytes)
    {a : Option Addr} {n0 c : Nat} {xs : List Value} (hs : A.eval s = .slice a n0 c) (h : Own w e k a n0 c xs)
    {m m' gx : Nat} {us : List Value} (hx : A.eval x = .slice (some ⟨gx, 0, none⟩) m m') (hu : us.length = m * k) (h1 : us.all Value.oneCell' = true)
    (hb : (n0 + m) * bytes ≤ 140737488355328) (h63 : n0 + m ≤ maxLen)
    (hk : ∀ a' c' w', Own w' e k a' (n0 + m) c' (xs ++ us) → Grow w a w' a' → (a' = none → n0 + m = 0) →
      wpListIn F n P ops Q rest (A.put o.dst (.slice a' (n0 + m) c')) w') (hgx : gx = w.heap.size := by first | rfl | simp) : wpListIn F n P ops Q (o :: rest) A (w.alloc (.cells us.toArray e)) := by
  subst hgx
  exact
  wpLI_append hF hgd s x t t ho ti hs (h.mod ((Mod.refl (fun _ => False) w).alloc _) (fun _ _ h => h)) hx (Src.ofRd ti.ht m m' (Rd.news w us e) hu (by simpa using h1)) hb h63
    fun a' c' w' h2 h3 h4 => hk a' c' w' h2 (h3.pre0 ((Mod.refl _ w).alloc _)) h4
end
end Go.Mine
/-
  lex.Each: the iterator's contract.
-/
namespace Go.Proofs.YtphgglnkdfndiaaDoor
open Go Go.RowKit Go.Mine
set_option maxHeartbeats 4000000
set_option maxRecDepth 100000
set_option linter.unusedVariables false

def encT (t : Tok) : Value := .agg #[.int .i64 t.kind, .string t.text, .int .i64 t.at_]
def encI (x : Tok × Nat) : Array Value := #[encT x.1, .int .i64 x.2]

theorem Mod.grownBy {w w' : World} (h : Mod (fun _ => False) w w') : w.grownBy w' none := ⟨h.os, h.tape, h.output, h.size, fun k hk _ => h.block k hk id⟩
theorem abides_mod {β : Type} {B : Nat} {J : β → World → Prop} (hJ : AbidesFrom B J) {s : β} {w w' : World} (h : J s w) (m : Mod (fun _ => False) w w') : J s w' :=
  hJ s w w' none h (Mod.grownBy m) (fun r e => by cases e)
@[local go_sem, local simp] theorem wide_fn (f : FuncId) : Fence.wide.fn f = True := rfl
@[local go_sem, local simp] theorem wide_depth : Fence.wide.depth = none := rfl

theorem idx_tw : ∀ (l : List UInt8), Lib.indexByte l 10 = if (l.takeWhile (· != 10)).length = l.length then -1 else ((l.takeWhile (· != 10)).length : Int)
  | [] => rfl
  | b :: l => by
    have ih := idx_tw l
    have hle := (List.takeWhile_sublist (fun x : UInt8 => x != 10) (l := l)).length_le
    rw [Lib.indexByte]
    by_cases hb : b = 10
    · subst hb; simp
    · have hb1 : (b == 10) = false := by simpa using hb
      have hb2 : (b != 10) = true := by simpa using hb
      simp only [hb1, hb2, Bool.false_eq_true, if_false, if_true, List.takeWhile_cons, ih, List.length_cons, Nat.add_right_cancel_iff]
      split
      · rfl
      · rename_i h
        rw [if_neg (by simp)]
        omega
theorem marksC_get (j : Nat) (h : j < 10) : marksC[j * 2]? = some (.string ⟨(marksT.getD j ([], 0)).1.toArray⟩) ∧ marksC[j * 2 + 1]? = some (.int .i64 (marksT.getD j ([], 0)).2) ∧ (marksT.getD j ([], 0)).1.length ≤ 2 ∧ 1 ≤ (marksT.getD j ([], 0)).2 := by
  have hc : j = 0 ∨ j = 1 ∨ j = 2 ∨ j = 3 ∨ j = 4 ∨ j = 5 ∨ j = 6 ∨ j = 7 ∨ j = 8 ∨ j = 9 := by omega
  rcases hc with rfl | rfl | rfl | rfl | rfl | rfl | rfl | rfl | rfl | rfl <;> exact ⟨rfl, rfl, by decide, by decide⟩
end Go.Proofs.YtphgglnkdfndiaaDoor
/-
  lex.Scan: its contract.
-/
namespace Go.Mine
open Go Go.RowKit
theorem Mod.ofGrown {W W' : World} {row : Option Nat} (hg : W.grownBy W' row) : Mod (fun k => row = some k) W W' :=
  ⟨hg.os, hg.tape, hg.output, hg.size, fun k hk hs => hg.block k hk (fun e => hs e.symm)⟩
/-- what lies in cells lies there still, where a block that holds no cells has turned -/
theorem cells_ne {W : World} {row : Option Nat} (hr : ∀ r, row = some r → ∃ o : Obj, W.heap[r]? = some o ∧ o.isCells = false) {b : Nat} {cs : Array Value} {t : TypeId} {fz : Nat × Nat} (h : W.heap[b]? = some (.cells cs t fz)) : row ≠ some b := by
  intro e
  obtain ⟨o, ho, hc⟩ := hr b e
  rw [h] at ho; cases ho; simp [Obj.isCells] at hc
theorem Own.blk_cells {w : World} {e : TypeId} {k : Nat} {a : Option Addr} {n c : Nat} {xs : List Value} (h : Own w e k a n c xs) : ∀ b, blk a = some b → ∃ cur, w.heap[b]? = some (.cells cur e (0, 0)) := by
  intro b hb
  rcases h.2 with ⟨rfl, _⟩ | ⟨b', cur, rfl, hg, _⟩
  · simp at hb
  · simp at hb; subst hb; exact ⟨cur, hg⟩
theorem Own.turned {W W' : World} {row : Option Nat} {e : TypeId} {k : Nat} {a : Option Addr} {n c : Nat} {xs : List Value} (h : Own W e k a n c xs) (hg : W.grownBy W' row) (hr : ∀ r, row = some r → ∃ o : Obj, W.heap[r]? = some o ∧ o.isCells = false) : Own W' e k a n c xs :=
  h.mod (Mod.ofGrown hg) (fun b hb hs => by obtain ⟨cur, hc⟩ := h.blk_cells b hb; exact cells_ne hr hc hs)
theorem bx_turned {W W' : World} {row : Option Nat} {B : Nat} {t : TypeId} {v : Value} (h : Boxed W B t v) (hg : W.grownBy W' row) (hr : ∀ r, row = some r → ∃ o : Obj, W.heap[r]? = some o ∧ o.isCells = false) : Boxed W' B t v :=
  (Mod.ofGrown hg).at h (fun hs => cells_ne hr h hs)
theorem bx_mod {S : Nat → Prop} {W W' : World} {B : Nat} {t : TypeId} {v : Value} (h : Boxed W B t v) (m : Mod S W W') (hs : ¬ S B) : Boxed W' B t v := m.at h hs
theorem bx_put {W : World} {B : Nat} {t : TypeId} {v : Value} (h : Boxed W B t v) (u : Value) : Boxed (W.setCell ⟨B, 0, none⟩ u) B t u := by
  have := heap_setCell_at (j := 0) u h
  unfold Boxed
  simpa using this
theorem Mod.turned {S : Nat → Prop} {w W W' : World} {row : Option Nat} (h : Mod S w W) (hg : W.grownBy W' row) (hr : ∀ r, row = some r → w.heap.size ≤ r) : Mod S w W' :=
  h.step (Mod.ofGrown hg) (fun i hi e => by have := hr i e; omega)
theorem keepsFrom_mod {S : Nat → Prop} {B : Nat} {W W' : World} (h : Mod S W W') (hs : ∀ k, S k → ∀ o : Obj, W.heap[k]? = some o → o.isCells = true) : KeepsFrom B W W' :=
  ⟨h.size, fun k o _ hk ho => h.at hk (fun s => by rw [hs k s o hk] at ho; cases ho)⟩
theorem tabs_lt {w : World} (h : Lib.Utf8Tabs 1 2 w) : 2 < w.heap.size := World.block_lt_of_cell? w _ (h.2 0 (by omega)).1

end Go.Mine
namespace Go.Proofs.YtphgglnkdfndiaaDoor
open Go Go.RowKit Go.Mine
set_option maxHeartbeats 4000000
set_option maxRecDepth 100000
set_option linter.unusedVariables false

def tokC (t : Tok) : List Value := [.int .i64 t.kind, .string t.text, .int .i64 t.at_]
def toksC (l : List Tok) : List Value := l.flatMap tokC
@[simp] theorem toksC_length (l : List Tok) : (toksC l).length = l.length * 3 := by
  induction l with
  | nil => rfl
  | cons t l ih =>
    have e : toksC (t :: l) = tokC t ++ toksC l := rfl
    rw [e, List.length_append, ih, List.length_cons]
    show 3 + _ = _
    omega
theorem toksC_append (l m : List Tok) : toksC (l ++ m) = toksC l ++ toksC m := by simp [toksC]
theorem scanGo_len (s : ByteArray) : ∀ (f i : Nat), (scanGo s f i).1.length ≤ f
  | 0, i => by simp [scanGo]
  | f + 1, i => by
    rw [scanGo]
    have h1 := scanGo_len s f (i + 1)
    have h2 := scanGo_len s f (cmtE s i)
    have h3 := scanGo_len s f (quoteE s (i + 1)).2.1
    have h4 := scanGo_len s f (wordL s i).2
    have h5 := scanGo_len s f (i + (markL (s.data.toList.drop i)).2)
    repeat' split
    all_goals (try simp only [tcons, List.length_cons, List.length_nil])
    all_goals omega
theorem foundL_len (s : ByteArray) : (foundL s).1.length ≤ s.size + 1 := by
  unfold foundL
  split
  · simp
  · exact scanGo_len s _ _
theorem seqOf_len (r : List Tok × Nat × Nat) : (seqOf r).length ≤ r.1.length + 1 := by
  unfold seqOf
  rw [List.length_append, List.length_map]
  split <;> simp
theorem seq_ok {ts : List Tok} {r : List Tok × Nat × Nat} (h : ts.map (fun t => (t, 0)) = seqOf r) : r.2.2 = 0 ∧ r.1 = ts := by
  unfold seqOf at h
  by_cases h0 : r.2.2 = 0
  · rw [if_pos h0, List.append_nil] at h
    refine ⟨h0, ?_⟩
    have := congrArg (List.map Prod.fst) h
    rw [List.map_map, List.map_map] at this
    have e : ∀ l : List Tok, l.map (Prod.fst ∘ fun x => (x, 0)) = l := fun l => by
      have : (Prod.fst ∘ fun x : Tok => (x, 0)) = id := rfl
      rw [this, List.map_id]
    rw [e, e] at this
    exact this.symm
  · rw [if_neg h0] at h
    have hm : ((⟨0, ⟨#[]⟩, r.2.1⟩, r.2.2) : Tok × Nat) ∈ ts.map (fun t => (t, 0)) := by rw [h]; simp
    obtain ⟨t, _, ht⟩ := List.mem_map.1 hm
    exact absurd (congrArg Prod.snd ht).symm h0
theorem seq_err {ts : List Tok} {t : Tok} {e : Nat} {r : List Tok × Nat × Nat} (h : ts.map (fun t => (t, 0)) ++ [(t, e)] <+: seqOf r) (he : e ≠ 0) : r.2.2 = e ∧ r.2.1 = t.at_ := by
  have hm : (t, e) ∈ seqOf r := h.subset (by simp)
  unfold seqOf at hm
  rcases List.mem_append.1 hm with hm | hm
  · obtain ⟨t', _, ht⟩ := List.mem_map.1 hm
    exact absurd (congrArg Prod.snd ht).symm he
  · split at hm
    · simp at hm
    · simp at hm
      obtain ⟨rfl, rfl⟩ := hm
      exact ⟨rfl, rfl⟩
/-- what Scan answers -/
def scanR (r : List Tok × Nat × Nat) : List Tok × Nat × Nat := if r.2.2 = 0 then (r.1, 0, 0) else ([], r.2.1, r.2.2)

@[local go_sem, local simp] theorem wide_fn2 (f : FuncId) : Fence.wide.fn f = True := rfl
@[local go_sem, local simp] theorem wide_depth2 : Fence.wide.depth = none := rfl

end Go.Proofs.YtphgglnkdfndiaaDoor
