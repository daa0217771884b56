/-
  lex.Scan: its contract.
-/
import Derived.Test.YtgplagdehfhffaaDoorEach
namespace Go.Mine
open Go Go.RowKit
theorem Mod.ofGrown {W W' : World} {row : Option Nat} (hg : W.grownBy W' row) : Mod (fun k => row = some k) W W' :=
  ⟨hg.os, hg.tape, hg.output, hg.size, fun k hk hs => hg.block k hk (fun e => hs e.symm)⟩
/-- what lies in cells lies there still, where a block that holds no cells has turned -/
theorem cells_ne {W : World} {row : Option Nat} (hr : ∀ r, row = some r → ∃ o : Obj, W.heap[r]? = some o ∧ o.isCells = false) {b : Nat} {cs : Array Value} {t : TypeId} {fz : Nat × Nat} (h : W.heap[b]? = some (.cells cs t fz)) : row ≠ some b := by
  intro e
  obtain ⟨o, ho, hc⟩ := hr b e
  rw [h] at ho; cases ho; simp [Obj.isCells] at hc
theorem Own.blk_cells {w : World} {e : TypeId} {k : Nat} {a : Option Addr} {n c : Nat} {xs : List Value} (h : Own w e k a n c xs) : ∀ b, blk a = some b → ∃ cur, w.heap[b]? = some (.cells cur e (0, 0)) := by
  intro b hb
  rcases h.2 with ⟨rfl, _⟩ | ⟨b', cur, rfl, hg, _⟩
  · simp at hb
  · simp at hb; subst hb; exact ⟨cur, hg⟩
theorem Own.turned {W W' : World} {row : Option Nat} {e : TypeId} {k : Nat} {a : Option Addr} {n c : Nat} {xs : List Value} (h : Own W e k a n c xs) (hg : W.grownBy W' row) (hr : ∀ r, row = some r → ∃ o : Obj, W.heap[r]? = some o ∧ o.isCells = false) : Own W' e k a n c xs :=
  h.mod (Mod.ofGrown hg) (fun b hb hs => by obtain ⟨cur, hc⟩ := h.blk_cells b hb; exact cells_ne hr hc hs)
theorem bx_turned {W W' : World} {row : Option Nat} {B : Nat} {t : TypeId} {v : Value} (h : Boxed W B t v) (hg : W.grownBy W' row) (hr : ∀ r, row = some r → ∃ o : Obj, W.heap[r]? = some o ∧ o.isCells = false) : Boxed W' B t v :=
  (Mod.ofGrown hg).at h (fun hs => cells_ne hr h hs)
theorem bx_mod {S : Nat → Prop} {W W' : World} {B : Nat} {t : TypeId} {v : Value} (h : Boxed W B t v) (m : Mod S W W') (hs : ¬ S B) : Boxed W' B t v := m.at h hs
theorem bx_put {W : World} {B : Nat} {t : TypeId} {v : Value} (h : Boxed W B t v) (u : Value) : Boxed (W.setCell ⟨B, 0, none⟩ u) B t u := by
  have := heap_setCell_at (j := 0) u h
  unfold Boxed
  simpa using this
theorem Mod.turned {S : Nat → Prop} {w W W' : World} {row : Option Nat} (h : Mod S w W) (hg : W.grownBy W' row) (hr : ∀ r, row = some r → w.heap.size ≤ r) : Mod S w W' :=
  h.step (Mod.ofGrown hg) (fun i hi e => by have := hr i e; omega)
theorem keepsFrom_mod {S : Nat → Prop} {B : Nat} {W W' : World} (h : Mod S W W') (hs : ∀ k, S k → ∀ o : Obj, W.heap[k]? = some o → o.isCells = true) : KeepsFrom B W W' :=
  ⟨h.size, fun k o _ hk ho => h.at hk (fun s => by rw [hs k s o hk] at ho; cases ho)⟩
theorem tabs_lt {w : World} (h : Lib.Utf8Tabs 1 2 w) : 2 < w.heap.size := World.block_lt_of_cell? w _ (h.2 0 (by omega)).1

end Go.Mine
namespace Go.Proofs.YtgplagdehfhffaaDoor
open Go Go.RowKit Go.Mine
set_option maxHeartbeats 4000000
set_option maxRecDepth 100000
set_option linter.unusedVariables false

def tokC (t : Tok) : List Value := [.int .i64 t.kind, .string t.text, .int .i64 t.at_]
def toksC (l : List Tok) : List Value := l.flatMap tokC
@[simp] theorem toksC_length (l : List Tok) : (toksC l).length = l.length * 3 := by
  induction l with
  | nil => rfl
  | cons t l ih =>
    have e : toksC (t :: l) = tokC t ++ toksC l := rfl
    rw [e, List.length_append, ih, List.length_cons]
    show 3 + _ = _
    omega
theorem toksC_append (l m : List Tok) : toksC (l ++ m) = toksC l ++ toksC m := by simp [toksC]
theorem scanGo_len (s : ByteArray) : ∀ (f i : Nat), (scanGo s f i).1.length ≤ f
  | 0, i => by simp [scanGo]
  | f + 1, i => by
    rw [scanGo]
    have h1 := scanGo_len s f (i + 1)
    have h2 := scanGo_len s f (cmtE s i)
    have h3 := scanGo_len s f (quoteE s (i + 1)).2.1
    have h4 := scanGo_len s f (wordL s i).2
    have h5 := scanGo_len s f (i + (markL (s.data.toList.drop i)).2)
    repeat' split
    all_goals (try simp only [tcons, List.length_cons, List.length_nil])
    all_goals omega
theorem foundL_len (s : ByteArray) : (foundL s).1.length ≤ s.size + 1 := by
  unfold foundL
  split
  · simp
  · exact scanGo_len s _ _
theorem seqOf_len (r : List Tok × Nat × Nat) : (seqOf r).length ≤ r.1.length + 1 := by
  unfold seqOf
  rw [List.length_append, List.length_map]
  split <;> simp
theorem seq_ok {ts : List Tok} {r : List Tok × Nat × Nat} (h : ts.map (fun t => (t, 0)) = seqOf r) : r.2.2 = 0 ∧ r.1 = ts := by
  unfold seqOf at h
  by_cases h0 : r.2.2 = 0
  · rw [if_pos h0, List.append_nil] at h
    refine ⟨h0, ?_⟩
    have := congrArg (List.map Prod.fst) h
    rw [List.map_map, List.map_map] at this
    have e : ∀ l : List Tok, l.map (Prod.fst ∘ fun x => (x, 0)) = l := fun l => by
      have : (Prod.fst ∘ fun x : Tok => (x, 0)) = id := rfl
      rw [this, List.map_id]
    rw [e, e] at this
    exact this.symm
  · rw [if_neg h0] at h
    have hm : ((⟨0, ⟨#[]⟩, r.2.1⟩, r.2.2) : Tok × Nat) ∈ ts.map (fun t => (t, 0)) := by rw [h]; simp
    obtain ⟨t, _, ht⟩ := List.mem_map.1 hm
    exact absurd (congrArg Prod.snd ht).symm h0
theorem seq_err {ts : List Tok} {t : Tok} {e : Nat} {r : List Tok × Nat × Nat} (h : ts.map (fun t => (t, 0)) ++ [(t, e)] <+: seqOf r) (he : e ≠ 0) : r.2.2 = e ∧ r.2.1 = t.at_ := by
  have hm : (t, e) ∈ seqOf r := h.subset (by simp)
  unfold seqOf at hm
  rcases List.mem_append.1 hm with hm | hm
  · obtain ⟨t', _, ht⟩ := List.mem_map.1 hm
    exact absurd (congrArg Prod.snd ht).symm he
  · split at hm
    · simp at hm
    · simp at hm
      obtain ⟨rfl, rfl⟩ := hm
      exact ⟨rfl, rfl⟩
/-- what Scan answers -/
def scanR (r : List Tok × Nat × Nat) : List Tok × Nat × Nat := if r.2.2 = 0 then (r.1, 0, 0) else ([], r.2.1, r.2.2)

theorem ti38 : TI Tryd.prog 74 79 3 32 := TI.mk' (z := .agg #[.int .i64 0, .string ⟨#[]⟩, .int .i64 0]) (by kernel_rfl) (by kernel_rfl) rfl (by omega)

attribute [local go_sem] Oper.semAt_some
@[local go_sem, local simp] theorem wide_fn2 (f : FuncId) : Fence.wide.fn f = True := rfl
@[local go_sem, local simp] theorem wide_depth2 : Fence.wide.depth = none := rfl

/-- what a round of Scan finds: the boxes of the results as they were, the tokens so far -/
def ScI (w : World) (pre : List (Tok × Nat)) (W : World) : Prop :=
  Boxed W w.heap.size 74 (.slice none 0 0) ∧ Boxed W (w.heap.size + 1) 3 (.int .i64 0) ∧ Boxed W (w.heap.size + 1 + 1) 27 (.int .i64 0) ∧
  (∃ (ts : List Tok) (a : Option Addr) (c : Nat), pre = ts.map (fun t => (t, 0)) ∧ Boxed W (w.heap.size + 1 + 1 + 1) 74 (.slice a ts.length c) ∧ Mine.Own W 79 3 a ts.length c (toksC ts) ∧ (∀ b, blk a = some b → w.heap.size + 5 ≤ b)) ∧
  Mod (fun _ => False) w W ∧ w.heap.size + 5 ≤ W.heap.size
/-- and where it has left -/
def ScX (w : World) (c : Code) (pre : List (Tok × Nat)) (W : World) : Prop :=
  c = .ret ∧ ∃ (ts : List Tok) (t : Tok) (e : Nat), e ≠ 0 ∧ pre = ts.map (fun t => (t, 0)) ++ [(t, e)] ∧
  Boxed W w.heap.size 74 (.slice none 0 0) ∧ Boxed W (w.heap.size + 1) 3 (.int .i64 t.at_) ∧ Boxed W (w.heap.size + 1 + 1) 27 (.int .i64 e) ∧ Mod (fun _ => False) w W
theorem scI_own (w : World) (B : Nat) (hB : w.heap.size ≤ B) : OwnFrom B (ScI w) := by
  rintro pre W W' row ⟨h1, h2, h3, ⟨ts, a, c, hp, h4, h5, h6⟩, h7, h8⟩ hg hr
  have hr2 := fun r e => (hr r e).2
  exact ⟨bx_turned h1 hg hr2, bx_turned h2 hg hr2, bx_turned h3 hg hr2, ⟨ts, a, c, hp, bx_turned h4 hg hr2, Mine.Own.turned h5 hg hr2, h6⟩, Mod.turned h7 hg (fun r e => Nat.le_trans hB (hr r e).1), Nat.le_trans h8 hg.size⟩
theorem scX_own (w : World) (c : Code) (B : Nat) (hB : w.heap.size ≤ B) : OwnFrom B (ScX w c) := by
  rintro pre W W' row ⟨hc, ts, t, e, he, hp, h1, h2, h3, h7⟩ hg hr
  have hr2 := fun r e => (hr r e).2
  exact ⟨hc, ts, t, e, he, hp, bx_turned h1 hg hr2, bx_turned h2 hg hr2, bx_turned h3 hg hr2, Mod.turned h7 hg (fun r e => Nat.le_trans hB (hr r e).1)⟩

theorem scan_any (a : Option Addr) (c : Nat) (l : List UInt8) (w : World) (hR : Rd w a (bts l)) (hT : Lib.Utf8Tabs 1 2 w) (hl : l.length < 2 ^ 30) :
    Calls Tryd.prog 40 #[.slice a l.length c] w fun e w' => ∃ (a' : Option Addr) (c' : Nat), e = .returned (.tuple #[.slice a' (scanR (foundL ⟨l.toArray⟩)).1.length c', .int .i64 (scanR (foundL ⟨l.toArray⟩)).2.1, .int .i64 (scanR (foundL ⟨l.toArray⟩)).2.2]) ∧
      Mine.Own w' 79 3 a' (scanR (foundL ⟨l.toArray⟩)).1.length c' (toksC (scanR (foundL ⟨l.toArray⟩)).1) ∧ Mod (fun _ => False) w w' ∧ (∀ b, blk a' = some b → w.heap.size ≤ b) := by
  have hsz : (⟨l.toArray⟩ : ByteArray).size = l.length := rfl
  have hlen := foundL_len ⟨l.toArray⟩
  have hlen2 := seqOf_len (foundL ⟨l.toArray⟩)
  rw [hsz] at hlen
  refine (callsIn_wide (n := 3)).1 ?_
  refine callsIn_of_wp_marks Tryd.func40 rfl trivial ?_ rfl
  simp only [Tryd.ntmps40, List.size_toArray, List.length_cons, List.length_nil, Nat.reduceAdd, Nat.reduceSub, Array.replicate_succ, Array.replicate_zero, List.push_toArray, List.append_toArray, List.nil_append, List.cons_append]
  gi_wp2_with fail
  have b2 := ((Boxed.new w 74 (.slice none 0 0)).alloc (.cells #[.int .i64 0] 3)).alloc (.cells #[.int .i64 0] 27)
  have b3 := (Boxed.new (w.alloc (.cells #[.slice none 0 0] 74)) 3 (.int .i64 0)).alloc (.cells #[.int .i64 0] 27)
  have b4 := Boxed.new ((w.alloc (.cells #[.slice none 0 0] 74)).alloc (.cells #[.int .i64 0] 3)) 27 (.int .i64 0)
  simp only [World.size_alloc] at b2 b3 b4
  have hm0 : Mod (fun _ => False) w (((w.alloc (.cells #[.slice none 0 0] 74)).alloc (.cells #[.int .i64 0] 3)).alloc (.cells #[.int .i64 0] 27)) := (((Mod.refl _ w).alloc _).alloc _).alloc _
  have hz0 : (((w.alloc (.cells #[.slice none 0 0] 74)).alloc (.cells #[.int .i64 0] 3)).alloc (.cells #[.int .i64 0] 27)).heap.size = w.heap.size + 1 + 1 + 1 := by simp
  obtain ⟨w1, hw1⟩ : ∃ w1, w1 = ((w.alloc (.cells #[.slice none 0 0] 74)).alloc (.cells #[.int .i64 0] 3)).alloc (.cells #[.int .i64 0] 27) := ⟨_, rfl⟩
  rw [← hw1] at b2 b3 b4 hm0 hz0 ⊢
  clear hw1
  have b5 := Boxed.new w1 74 (.slice none 0 0)
  rw [hz0] at b5
  have b2' := b2.alloc (.cells #[.slice none 0 0] 74)
  have b3' := b3.alloc (.cells #[.slice none 0 0] 74)
  have b4' := b4.alloc (.cells #[.slice none 0 0] 74)
  have hm1 := hm0.alloc (.cells #[.slice none 0 0] 74)
  have hz1 : (w1.alloc (.cells #[.slice none 0 0] 74)).heap.size = w.heap.size + 1 + 1 + 1 + 1 := by simp [hz0]
  obtain ⟨w2, hw2⟩ : ∃ w2, w2 = w1.alloc (.cells #[.slice none 0 0] 74) := ⟨_, rfl⟩
  rw [← hw2] at b5 b2' b3' b4' hm1 hz1 ⊢
  clear hw2 b2 b3 b4 hm0 hz0
  refine (callsIn_wide.2 (each_any a c l w2 (hR.mod hm1 (fun _ _ => id)))).mono ?_
  rintro e w3 ⟨rfl, hw3⟩
  have hB : w3.heap[w.heap.size + 1 + 1 + 1 + 1]? = some (.cells #[.string ⟨l.toArray⟩] 9 (0, 0)) := by rw [hw3, ← hz1]; exact heap_alloc_new w2 _
  have hm3 : Mod (fun _ => False) w w3 := by rw [hw3]; exact hm1.alloc _
  have hz3 : w3.heap.size = w.heap.size + 5 := by rw [hw3]; simp [hz1]
  have hI0 : ScI w [] w3 := ⟨by rw [hw3]; exact b2'.alloc _, by rw [hw3]; exact b3'.alloc _, by rw [hw3]; exact b4'.alloc _, ⟨[], none, 0, rfl, by rw [hw3]; exact b5.alloc _, Mine.Own.nil _ _ _, by simp⟩, hm3, by omega⟩
  have HI0 := Lib.hid hI0
  have HT3 := Lib.hid (tabs_mod hT hm3)
  have HB := Lib.hid hB
  have HZ := Lib.hid hz3
  have HLT : Hid (w.heap.size + 5 = w3.heap.size) := hz3.symm
  rw [hz1]
  clear hw3 hI0 hB hm3 b2' b3' b4' b5 hm1 hz1 hR hz3
  have HL := Lib.hid hlen; have HL2 := Lib.hid hlen2
  have H2 := Lib.hid (tabs_lt HT3.out)
  have H2' := Lib.hid (tabs_lt hT)
  clear hlen hlen2 hT hsz
  gi_wp2_with fail
  have hKb := KpL.putObj (w := w3) (B := w.heap.size + 1 + 1 + 1 + 1) (by rw [HZ.out]; omega) H2.out
  have hSeq := each_stops 2 (w.heap.size + 1 + 1 + 1 + 1) ⟨l.toArray⟩ w3 HB.out HT3.out H2.out (show l.length < 2 ^ 30 from hl)
  refine wpIn_rangeFunc_ownH rfl (by omega) (gf := 75) (lb := #[.pointer (some ⟨w.heap.size + 1 + 1 + 1 + 1, 0, none⟩)]) rfl trivial (enters_of Tryd.func75 (by kernel_rfl) rfl)
    hSeq (fun h k => KpL.trans h k) hKb (Below.refl _ _) (fun _ => rfl) (ScI w) (ScX w) (scI_own w _ (by rw [HZ.out]; omega)) (fun c => scX_own w c _ (by rw [HZ.out]; omega)) HI0.out
    (fun x a' W => ∃ Bx, w.heap.size + 5 ≤ Bx ∧ W.heap[Bx]? = some (.cells (tokC x.1).toArray 79 (0, 0)) ∧ a' = { tmps := #[.slice a l.length c, undef, .pointer (some ⟨w.heap.size, 0, none⟩), .pointer (some ⟨w.heap.size + 1, 0, none⟩), .pointer (some ⟨w.heap.size + 1 + 1, 0, none⟩), .pointer (some ⟨w.heap.size + 1 + 1 + 1, 0, none⟩), .pointer (some ⟨Bx, 0, none⟩), .int .i64 x.2, .slice a l.length c, .func (.func 75) #[] #[.pointer (some ⟨w.heap.size + 1 + 1 + 1 + 1, 0, none⟩)], encT x.1, .int .i64 x.2, undef, undef, undef, undef, undef, undef, undef, undef, undef, undef], defers := [] })
    (fun x a' _ X Y row hs hg hr => by obtain ⟨Bx, h1, h2, h3⟩ := hs; exact ⟨Bx, h1, (Mod.ofGrown hg).at h2 (fun hs => cells_ne (fun r e => (hr r e).2) h2 hs), h3⟩)
    ?assign ?body ?done ?stop
  case assign =>
    rintro l1 pre x W K hi hK
    obtain ⟨⟨xk, xt, xa⟩, xe⟩ := x
    have hsW : w.heap.size + 5 ≤ W.heap.size := hi.2.2.2.2.2
    have HK := Lib.hid hK
    clear hK
    have HI := Lib.hid hi
    clear hi hKb hSeq
    simp only [encI, encT]
    gi_wp2
    exact HK.out _ _ ((KeepsOthers.alloc _ _).from _) (KpL.of_mod ((Mod.refl (fun _ => False) W).alloc _) (by omega) (by have := H2'.out; omega) id id id (fun _ _ _ h => h.elim))
      ((scI_own w _ (Nat.le_refl _)).alloc _ HI.out) ⟨W.heap.size, hsW, heap_alloc_new W _, rfl⟩
  case body =>
    rintro l1 pre x a' W hl1 ⟨rc, hrc⟩ hi ⟨Bx, hBx, hbx, rfl⟩ hlt
    obtain ⟨h1, h2, h3, ⟨ts, a5, c5, hp, h4, h5, h6⟩, h7, h8⟩ := hi
    obtain ⟨⟨xk, xt, xa⟩, xe⟩ := x
    have d0 : W.cell? ⟨Bx, 0, none⟩ = some (.int .i64 xk) := cell_at hbx rfl
    have d1 : W.cell? ⟨Bx, 1, none⟩ = some (.string xt) := cell_at hbx rfl
    have d2 : W.cell? ⟨Bx, 2, none⟩ = some (.int .i64 xa) := cell_at hbx rfl
    have d5 := h4.cell
    have f5 := h4.frozen
    have hlp : pre.length = ts.length := by rw [hp, List.length_map]
    have H1 := Lib.hid h1; have H2b := Lib.hid h2; have H3 := Lib.hid h3; have HP := Lib.hid hp; have H4 := Lib.hid h4; have H5 := Lib.hid h5; have H6 := Lib.hid h6; have H7 := Lib.hid h7
    have HLP := Lib.hid hlp; have HRC := Lib.hid hrc
    have hb3 : ts.length ≤ 2 ^ 31 := by have := HL.out; have := HL2.out; omega
    clear h4 h5 h6 h7 hp hlp hrc hKb hSeq hbx
    by_cases hxe : xe = 0
    · subst hxe
      clear h1 h2 h3
      have HN5 : Hid (blk a5 ≠ some (w.heap.size + 1 + 1 + 1)) := fun h => by have := H6.out _ h; omega
      gi_wp2_with (gi_at_builtin; refine wpLI_appendN (fun _ => trivial) (us := [_, _, _]) rfl (.tmp 17) (.tmp 19) 74 rfl ti38 rfl H5.out rfl rfl rfl (by omega) (by unfold maxLen; omega) ?_; intro a6 c6 w6 hO6 hG6 _
                   have hb6 : Boxed w6 _ _ _ := hG6.mod.at H4.out HN5.out
                   have d6 := hb6.cell
                   have f6 := hb6.frozen
                   have HB6 := Lib.hid hb6; have HO6 := Lib.hid hO6; have HG6 := Lib.hid hG6
                   clear hb6 hO6 hG6 d5)
      have hM : Mod (fun k => k = w.heap.size + 1 + 1 + 1 ∨ blk a5 = some k) W (w6.setCell ⟨w.heap.size + 1 + 1 + 1, 0, none⟩ (.slice a6 (ts.length + 1) c6)) := (HG6.out.mod.mono (fun _ _ h => .inr h)).setCell (fun _ => .inl rfl) _
      have hlow : ∀ k, k < w.heap.size + 1 + 1 + 1 → ¬ (k = w.heap.size + 1 + 1 + 1 ∨ blk a5 = some k) := by
        rintro k hk (rfl | h)
        · omega
        · have := H6.out k h; omega
      have h2w := H2'.out
      refine ⟨keepsFrom_mod hM ?_, KpL.of_mod hM (by omega) (by omega) ?_ (hlow _ (by omega)) (hlow _ (by omega)) ?_, bx_mod H1.out hM (hlow _ (by omega)), bx_mod H2b.out hM (hlow _ (by omega)), bx_mod H3.out hM (hlow _ (by omega)), ⟨ts ++ [⟨xk, xt, xa⟩], a6, c6, ?_, ?_, ?_, ?_⟩, ?_, ?_⟩
      · rintro k (rfl | h) o ho
        · have := H4.out; unfold Boxed at this; rw [this] at ho; cases ho; rfl
        · obtain ⟨cur, hc⟩ := Mine.Own.blk_cells H5.out k h
          rw [hc] at ho; cases ho; rfl
      · rintro (h | h)
        · omega
        · have := H6.out _ h; omega
      · rintro k cs fz (rfl | h) he
        · have := H4.out; unfold Boxed at this; rw [this] at he; cases he
        · obtain ⟨cur, hc⟩ := Mine.Own.blk_cells H5.out k h
          rw [hc] at he; cases he
      · rw [HP.out]; simp
      · rw [List.length_append]; exact bx_put HB6.out _
      · rw [List.length_append, toksC_append]
        exact HO6.out.mod ((Mod.refl (fun b => b = w.heap.size + 1 + 1 + 1) w6).setCell (fun _ => rfl) _) (fun b hb e => by
          subst e
          rcases HG6.out.pos with e | ⟨g, e, hg⟩
          · rw [e] at hb; exact HN5.out hb
          · rw [e] at hb; cases hb; omega)
      · intro b hb
        rcases HG6.out.pos with e | ⟨g, e, hg⟩
        · rw [e] at hb; exact H6.out b hb
        · rw [e] at hb; cases hb; omega
      · exact H7.out.step hM (fun i hi hs => hlow i (by omega) hs)
      · exact Nat.le_trans h8 hM.size
    · have hxb : ((xe : Int) != 0) = true := by simp; omega
      have f2 := h1.frozen
      have f3 := h2.frozen
      have f4 := h3.frozen
      have e2 := h1.cell
      have e3 := h2.cell
      have e4 := h3.cell
      clear h1 h2 h3
      gi_wp2_with fail
      refine wpIn_region_ord (fun w' => w'.cell? ⟨Bx, 2, none⟩ = some (.int .i64 xa)) [(0, 0), (1, 1), (0, 2), (2, 3), (3, 4), (3, 5)] (by kernel_rfl) (by kernel_rfl) (by kernel_rfl) ?_
      go_wp2_with (first
        | (refine ord_pure rfl rfl rfl (fun K hK => ?_); go_big_quiet_op; refine hK _ ?_; clear hK K)
                        | (refine ord_skip rfl rfl ?_; simp only [Act.put, List.setIfInBounds_toArray, List.set_cons_zero, List.set_cons_succ])
                        | (refine ord_held rfl rfl rfl (by simpa using d2) (fun K hK => ?_); apply Exists.intro; refine ⟨fun w' hs => ?_, hK _ ?_⟩; (revert hs; dsimp only; (try simp only [and_imp]); intros; go_simp; rfl); clear hK K)
                        | (refine ord_keep rfl rfl (by simpa using d2) (fun K hK => ?_))
                        | (refine ord_drop rfl rfl (fun K hK => ?_))
                        | (refine ord_nil ?_))
      refine hK _ _ (((Mod.refl (fun k => k = w.heap.size) W).setCell (fun _ => rfl) _).drew.cell d2 (by show ¬ Bx = _; omega)) ?_; clear hK K
      go_wp2_with (first
        | (refine ord_pure rfl rfl rfl (fun K hK => ?_); go_big_quiet_op; refine hK _ ?_; clear hK K)
                        | (refine ord_skip rfl rfl ?_; simp only [Act.put, List.setIfInBounds_toArray, List.set_cons_zero, List.set_cons_succ])
                        | (refine ord_held rfl rfl rfl (by simpa using d2) (fun K hK => ?_); apply Exists.intro; refine ⟨fun w' hs => ?_, hK _ ?_⟩; (revert hs; dsimp only; (try simp only [and_imp]); intros; go_simp; rfl); clear hK K)
                        | (refine ord_keep rfl rfl (by simpa using d2) (fun K hK => ?_))
                        | (refine ord_drop rfl rfl (fun K hK => ?_))
                        | (refine ord_nil ?_))
      gi_wp2
      have hM : Mod (fun k => k = w.heap.size ∨ k = w.heap.size + 1 ∨ k = w.heap.size + 1 + 1) W (((W.setCell ⟨w.heap.size, 0, none⟩ (.slice none 0 0)).setCell ⟨w.heap.size + 1, 0, none⟩ (.int .i64 xa)).setCell ⟨w.heap.size + 1 + 1, 0, none⟩ (.int .i64 xe)).drew :=
        ((((Mod.refl _ W).setCell (fun _ => .inl rfl) _).setCell (fun _ => .inr (.inl rfl)) _).setCell (fun _ => .inr (.inr rfl)) _).drew
      refine ⟨keepsFrom_mod hM ?_, rfl, ts, ⟨xk, xt, xa⟩, xe, hxe, by rw [HP.out], ?_, ?_, ?_, H7.out.step hM (fun i hi hs => by omega)⟩
      · rintro k (rfl | rfl | rfl) o ho
        · have := H1.out; unfold Boxed at this; rw [this] at ho; cases ho; rfl
        · have := H2b.out; unfold Boxed at this; rw [this] at ho; cases ho; rfl
        · have := H3.out; unfold Boxed at this; rw [this] at ho; cases ho; rfl
      · exact Boxed.other (Boxed.other (bx_put H1.out _) (by omega) _) (by omega) _
      · exact Boxed.other (bx_put (Boxed.other H2b.out (by omega) _) _) (by omega) _
      · exact bx_put (Boxed.other (Boxed.other H3.out (by omega) _) (by omega) _) _
  case done =>
    rintro D xs W hD rfl hi hK
    obtain ⟨h1, h2, h3, ⟨ts, a5, c5, hp, h4, h5, h6⟩, h7, h8⟩ := hi
    have d5 := h4.cell
    have f2 := h1.frozen
    have f3 := h2.frozen
    have f4 := h3.frozen
    have e2 := h1.cell
    have e3 := h2.cell
    have e4 := h3.cell
    have H1 := Lib.hid h1; have H2b := Lib.hid h2; have H3 := Lib.hid h3; have HP := Lib.hid hp; have H4 := Lib.hid h4; have H5 := Lib.hid h5; have H6 := Lib.hid h6; have H7 := Lib.hid h7
    have HK := Lib.hid hK
    have HD := Lib.hid hD
    clear h1 h2 h3 h4 h5 h6 h7 hp hK hKb hSeq hD
    gi_wp2
    have hD := HD.out
    rw [HZ.out] at hD
    obtain ⟨W', hW'⟩ : ∃ W', W' = ((W.setCell ⟨w.heap.size, 0, none⟩ (.slice a5 ts.length c5)).setCell ⟨w.heap.size + 1, 0, none⟩ (.int .i64 0)).setCell ⟨w.heap.size + 1 + 1, 0, none⟩ (.int .i64 0) := ⟨_, rfl⟩
    rw [← hW']
    have hM : Mod (fun k => k = w.heap.size ∨ k = w.heap.size + 1 ∨ k = w.heap.size + 1 + 1) W W' := by
      rw [hW']; exact (((Mod.refl _ W).setCell (fun _ => .inl rfl) _).setCell (fun _ => .inr (.inl rfl)) _).setCell (fun _ => .inr (.inr rfl)) _
    have hK' := hM.at HK.out (by omega)
    have r2 : Boxed W' w.heap.size 74 (.slice a5 ts.length c5) := by rw [hW']; exact Boxed.other (Boxed.other (bx_put H1.out _) (by omega) _) (by omega) _
    have r3 : Boxed W' (w.heap.size + 1) 3 (.int .i64 0) := by rw [hW']; exact Boxed.other (bx_put (Boxed.other H2b.out (by omega) _) _) (by omega) _
    have r4 : Boxed W' (w.heap.size + 1 + 1) 27 (.int .i64 0) := by rw [hW']; exact bx_put (Boxed.other (Boxed.other H3.out (by omega) _) (by omega) _) _
    have hG := Mod.ofGrown (grownBy_putObj' W' D (.deferred none))
    refine ⟨by simp, .inl ⟨_, _, rfl, run_takeDeferred hK', ?_⟩⟩
    have c2 := (bx_mod r2 hG (fun e => by cases e; omega)).cell
    have c3 := (bx_mod r3 hG (fun e => by cases e; omega)).cell
    have c4 := (bx_mod r4 hG (fun e => by cases e; omega)).cell
    obtain ⟨q1, q2⟩ := seq_ok HP.out.symm
    have hO := (H5.out.mod hM (fun b hb => by have := H6.out b hb; omega)).mod hG (fun b hb e => by cases e; obtain ⟨cur, hc⟩ := Mine.Own.blk_cells (H5.out.mod hM (fun b hb => by have := H6.out b hb; omega)) D hb; rw [hK'] at hc; cases hc)
    have hMw := (H7.out.step hM (fun i hi hs => by omega)).step hG (fun i hi e => by cases e; omega)
    refine ⟨.tuple #[.slice a5 ts.length c5, .int .i64 0, .int .i64 0], ?_, a5, c5, ?_, ?_, hMw, fun b hb => by have := H6.out b hb; omega⟩
    · simp [results, Tryd.f40, go_sem, c2, c3, c4]
    · unfold scanR; rw [if_pos q1, q2]; rfl
    · unfold scanR; rw [if_pos q1, q2]; exact hO
  case stop =>
    rintro D cc pre W hD hpre ⟨rfl, ts, t, e, he, hp, h1, h2, h3, h7⟩ hK
    have H1 := Lib.hid h1; have H2b := Lib.hid h2; have H3 := Lib.hid h3; have HP := Lib.hid hp; have H7 := Lib.hid h7
    have HK := Lib.hid hK
    have HD := Lib.hid hD
    have HPR := Lib.hid hpre
    clear h1 h2 h3 h7 hp hK hKb hSeq hD hpre
    gi_wp2
    have hD := HD.out
    rw [HZ.out] at hD
    have hG := Mod.ofGrown (grownBy_putObj' W D (.deferred none))
    refine ⟨by simp, .inl ⟨_, _, rfl, run_takeDeferred HK.out, ?_⟩⟩
    have c2 := (bx_mod H1.out hG (fun e => by cases e; omega)).cell
    have c3 := (bx_mod H2b.out hG (fun e => by cases e; omega)).cell
    have c4 := (bx_mod H3.out hG (fun e => by cases e; omega)).cell
    obtain ⟨q1, q2⟩ := seq_err (HP.out ▸ HPR.out) he
    have hMw := H7.out.step hG (fun i hi e => by cases e; omega)
    have hsr : scanR (foundL ⟨l.toArray⟩) = ([], t.at_, e) := by unfold scanR; rw [if_neg (by rw [q1]; exact he), q1, q2]
    rw [hsr]
    refine ⟨.tuple #[.slice none 0 0, .int .i64 t.at_, .int .i64 e], ?_, none, 0, rfl, Mine.Own.nil _ _ _, hMw, by simp⟩
    simp [results, Tryd.f40, go_sem, c2, c3, c4]
end Go.Proofs.YtgplagdehfhffaaDoor
