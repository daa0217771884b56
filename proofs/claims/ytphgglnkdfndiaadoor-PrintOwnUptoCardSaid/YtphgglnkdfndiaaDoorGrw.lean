/-
  Lists that lie in blocks of their own are written full of marks and gone on with: what is seen then in each, and in what it was ahead.
-/
import Derived.Test.YtphgglnkdfndiaaDoorFamG
namespace Go.Mine
open Go Go.RowKit
set_option linter.unusedVariables false
section
variable {P : Program} {w : World}
/-- append: into the block, or into a new one, and then nothing that was there has turned -/
theorem run_append_turn {t tx ty e : TypeId} {k bytes : Nat} (ti : TI P t e k bytes) {a : Option Addr} {n c : Nat} {xs : List Value} (h : Own w e k a n c xs)
    {x : Value} {m : Nat} {news : List Value} (hs : Src P k tx x m news w) (hm : 0 < m) (hb : (n + m) * bytes ≤ 140737488355328) (h63 : n + m ≤ maxLen) :
    ∃ a' c' w', (Builtin.append_ #[t, tx] ty #[.slice a n c, x]).run P w = .ok (.slice a' (n + m) c') w' ∧ Own w' e k a' (n + m) c' (xs ++ news) ∧
      ((a' = a ∧ Mod (fun b => blk a = some b) w w') ∨ (Mod (fun _ => False) w w' ∧ ∀ b, blk a' = some b → w.heap.size ≤ b)) := by
  obtain ⟨i, z, hi, hz, rfl, rfl, hzs⟩ := ti.ex
  have hlen : (xs ++ news).length = (n + m) * i.size := by rw [List.length_append, h.1, hs.newsLen, Nat.add_mul]
  have hnew : n + m ≤ 9223372036854775807 := by unfold maxLen at h63; omega
  rcases h.2 with ⟨rfl, rfl, rfl⟩ | ⟨b, cur, rfl, hg, hnc, hcm, hcs, htake⟩
  · have hx : xs = [] := List.eq_nil_of_length_eq_zero (by simpa using h.1)
    subst hx
    obtain ⟨a', c', w', h1, h2, h3, h4, _⟩ := run_append_mine (ty := ty) ti h hs hb h63
    refine ⟨a', c', w', h1, h2, .inr ⟨h3.mono (fun _ _ e => by simp at e), fun b hb => ?_⟩⟩
    rcases h4 with e | ⟨g, e, hg⟩
    · rw [e] at hb; simp at hb
    · rw [e] at hb; cases hb; exact hg
  · by_cases hroom : n + m ≤ c
    · have hfit : n * i.size + news.length ≤ cur.size := by rw [hs.newsLen, hcs, ← Nat.add_mul]; exact Nat.mul_le_mul_right _ hroom
      have hst := run_storeCells_at P b (n * i.size) e news 0 cur w hg (by simpa using hfit) hs.one
      simp only [Nat.add_zero] at hst
      have hr : (Builtin.append_ #[t, tx] ty #[.slice (some ⟨b, 0, none⟩) n c, x]).run P w = .ok (.slice (some ⟨b, 0, none⟩) (n + m) c) (w.setRow b (cur.toList.take (n * i.size) ++ news ++ cur.toList.drop (n * i.size + news.length)).toArray) := by
        rcases hs.kind with ⟨e', hk⟩ | hk <;>
          simp [Builtin.append_, run_underlying ti.ht, run_underlying hk, sizeOf, typeInfo, hi, hs.len, hroom, hs.cells, Addr.add_lit, hst]
      refine ⟨_, _, _, hr, ⟨hlen, .inr ⟨b, _, rfl, setRow_heap w b cur _ e _ hg, hroom, hcm, ?_, ?_⟩⟩, .inl ⟨rfl, rfl, rfl, rfl, by simp, fun q _ hq => setRow_other w b q _ (fun e => hq (by simp [e]))⟩⟩
      · simp only [List.size_toArray, List.length_append, List.length_take, List.length_drop, Array.length_toList]
        omega
      · rw [htake, ← hlen]
        exact List.take_left
    · have holds : ∀ j u, xs[j]? = some u → w.drew.cell? ((⟨b, 0, none⟩ : Addr).add j) = some u := fun j u hu => by
        have hadd : (⟨b, 0, none⟩ : Addr).add j = ⟨b, j, none⟩ := by unfold Addr.add; split <;> simp_all
        rw [hadd]
        obtain ⟨b', o', e', hc⟩ := h.rd j u hu
        cases e'
        simpa using hc
      have hold := run_firstCells_some (P := P) w.drew i.size n ⟨b, 0, none⟩ n c xs h.1 holds
      have hr := run_append_grow_src (P := P) w t tx ty e i z ti.ht hi hz (some ⟨b, 0, none⟩) n c xs hold x m news hs (by omega) (by omega) (growslice_fits (by omega) hb)
      have hge := grownCap_ge w (n + m) c e
      have hcm : grownCap w (n + m) c e ≤ maxLen := grownCap_le_maxLen w (n + m) c e h63
      refine ⟨_, _, _, hr, ⟨hlen, .inr ⟨w.heap.size, _, rfl, heap_alloc_new w.drew _, hge, hcm, ?_, ?_⟩⟩, .inr ⟨(Mod.refl _ w).drew.alloc _, fun b hb => by simp at hb; omega⟩⟩
      · simp only [Array.size_append, List.size_toArray, size_zeroCells, hzs, hlen, ← Nat.add_mul]
        congr 1
        omega
      · simp only [Array.toList_append]
        rw [← hlen]
        exact List.take_left
end
/-- marks: so many elements' cells -/
def mkL (el : Nat → Nat → List Value) (i n : Nat) : List Value := (List.range n).flatMap (el i)
theorem mkL_succ (el : Nat → Nat → List Value) (i n : Nat) : mkL el i (n + 1) = mkL el i n ++ el i n := by
  unfold mkL
  rw [List.range_succ, List.flatMap_append, List.flatMap_cons, List.flatMap_nil, List.append_nil]
theorem mkL_len {el : Nat → Nat → List Value} {kk : Nat} (h : ∀ i k, (el i k).length = kk) (i n : Nat) : (mkL el i n).length = n * kk := by
  unfold mkL
  rw [flat_len (fun x => h i x), List.length_range]
theorem mkL_get {el : Nat → Nat → List Value} {kk : Nat} (h : ∀ i k, (el i k).length = kk) (i : Nat) {n k j : Nat} (hk : k < n) (hj : j < kk) : (mkL el i n)[k * kk + j]? = (el i k)[j]? := by
  unfold mkL
  exact flat_get (fun x => h i x) (by rw [List.getElem?_eq_getElem (by simpa using hk), List.getElem_range]) hj
/-- one element written: so many cells from a place on -/
def putL (xs : List Value) (j : Nat) (us : List Value) : List Value := xs.take j ++ us ++ xs.drop (j + us.length)
theorem putL_nil (xs : List Value) (j : Nat) : putL xs j [] = xs := by simp [putL]
theorem putL_len {xs : List Value} {j : Nat} {us : List Value} (h : j + us.length ≤ xs.length) : (putL xs j us).length = xs.length := by
  simp only [putL, List.length_append, List.length_take, List.length_drop]; omega
theorem putL_snoc {xs : List Value} {j : Nat} {us : List Value} {u : Value} (h : j + us.length < xs.length) : (putL xs j us).set (j + us.length) u = putL xs j (us ++ [u]) := by
  have hl : (xs.take j ++ us).length = j + us.length := by simp; omega
  unfold putL
  rw [List.set_append_right _ _ (by omega), hl, Nat.sub_self, List.drop_eq_getElem_cons h, List.set_cons_zero, List.length_append, List.length_singleton]
  simp [Nat.add_assoc]
theorem putL_take {xs : List Value} {j : Nat} {us : List Value} (h : j + us.length ≤ xs.length) : (putL xs j us).take (j + us.length) = xs.take j ++ us := by
  unfold putL
  exact List.take_left' (by simp; omega)
/-- a list of which so many elements are marked -/
def itM (e : TypeId) (kk : Nat) (el : Nat → Nat → List Value) (k i : Nat) (s : Sl) : It := slI e kk s (fun xs => xs.take (k * kk) = mkL el i k)
def itA (e : TypeId) (kk : Nat) (el : Nat → Nat → List Value) : Nat → List Sl → List It
  | _, [] => []
  | i, s :: ss => itM e kk el s.n i s :: itA e kk el (i + 1) ss
theorem itA_append (e : TypeId) (kk : Nat) (el : Nat → Nat → List Value) : ∀ (i : Nat) (ss tt : List Sl), itA e kk el i (ss ++ tt) = itA e kk el i ss ++ itA e kk el (i + ss.length) tt
  | _, [], _ => rfl
  | i, s :: ss, tt => by
    show itM e kk el s.n i s :: itA e kk el (i + 1) (ss ++ tt) = _
    rw [itA_append e kk el (i + 1) ss tt, List.length_cons, show i + 1 + ss.length = i + (ss.length + 1) by omega]
    rfl
/-- a list that was gone on with: what it was is seen still -/
def itG (e : TypeId) (kk : Nat) (s g : Sl) (xs ys : List Value) : It :=
  ⟨fun b => blk s.a = some b ∨ blk g.a = some b,
    fun w => Own w e kk g.a g.n g.c (xs ++ ys) ∧ Rd w s.a xs ∧ (∀ b, blk s.a = some b → b < w.heap.size) ∧ (s.a = g.a ∨ ∀ b, blk s.a = some b → blk g.a ≠ some b),
    fun S w w' ⟨h1, h2, h3, h4⟩ m hs => ⟨h1.mod m (fun b hb => hs b (.inr hb)), h2.mod m (fun b hb => hs b (.inl hb)), fun b hb => Nat.lt_of_lt_of_le (h3 b hb) m.size, h4⟩,
    fun w ⟨h1, h2, h3, h4⟩ b hb => hb.elim (h3 b) (h1.lt b)⟩
theorem itG_of {e : TypeId} {kk : Nat} {el : Nat → Nat → List Value} {i : Nat} {s : Sl} {w : World} (h : (itM e kk el s.n i s).P w) : (itG e kk s s (mkL el i s.n) []).P w := by
  obtain ⟨xs, hO, hq⟩ := h
  have hx : xs = mkL el i s.n := by rw [← hq, List.take_of_length_le (by have := hO.1; omega)]
  subst hx
  exact ⟨by rw [List.append_nil]; exact hO, hO.rd, hO.lt, .inl rfl⟩
section
variable {P : Program} {w : World}
theorem itG.append {e : TypeId} {kk : Nat} {s g : Sl} {xs ys : List Value} (h : (itG e kk s g xs ys).P w) {t tx ty : TypeId} {bytes : Nat} (ti : TI P t e kk bytes)
    {x : Value} {m : Nat} {news : List Value} (hs : Src P kk tx x m news w) (hm : 0 < m) (hb : (g.n + m) * bytes ≤ 140737488355328) (h63 : g.n + m ≤ maxLen) :
    ∃ a' c' w', (Builtin.append_ #[t, tx] ty #[.slice g.a g.n g.c, x]).run P w = .ok (.slice a' (g.n + m) c') w' ∧ (itG e kk s ⟨a', g.n + m, c'⟩ xs (ys ++ news)).P w' ∧ Mod (itG e kk s g xs ys).F w w' ∧
      (blk a' = blk g.a ∨ ∀ b, blk a' = some b → w.heap.size ≤ b) := by
  obtain ⟨h1, h2, h3, h4⟩ := h
  obtain ⟨a', c', w', r1, r2, r3⟩ := run_append_turn (ty := ty) ti h1 hs hm hb h63
  rw [List.append_assoc] at r2
  refine ⟨a', c', w', r1, ?_⟩
  rcases r3 with ⟨rfl, r3⟩ | ⟨r3, r4⟩
  · refine ⟨⟨r2, ?_, fun b hb => Nat.lt_of_lt_of_le (h3 b hb) r3.size, h4⟩, r3.mono (fun b _ hb => .inr hb), .inl rfl⟩
    rcases h4 with e | h4
    · show Rd w' s.a xs
      rw [e]
      have := r2.rd.take xs.length
      rw [List.take_left] at this
      exact this
    · exact h2.mod r3 (fun b hb => h4 b hb)
  · refine ⟨⟨r2, h2.mod r3 (fun _ _ => id), fun b hb => Nat.lt_of_lt_of_le (h3 b hb) r3.size, .inr fun b hb e => ?_⟩, r3.mono (fun _ _ f => f.elim), .inr r4⟩
    have := h3 b hb
    have := r4 b e
    omega
/-- 'append(g, x)', x just laid -/
theorem wpL_appendG {ops : Array Oper} {rest : List Oper} {o : Oper} {A : Act} {Q : Exit → Act → World → Prop} (hgd : o.guard = none) (p x : Operand) (t : TypeId)
    (ho : o.op = .call { callee := .builtin .append, args := #[p, x], argTypes := #[t, t] }) {e : TypeId} {kk bytes : Nat} (ti : TI P t e kk bytes)
    {L : Nat} {l1 l2 : List It} {s g : Sl} {xs ys : List Value} (h : Fam L w (l1 ++ itG e kk s g xs ys :: l2)) (hs : A.eval p = .slice g.a g.n g.c)
    {gx : Nat} {us : List Value} (hx : A.eval x = .slice (some ⟨gx, 0, none⟩) 1 1) (hu : us.length = kk) (h1 : us.all Value.oneCell' = true)
    (hb : (g.n + 1) * bytes ≤ 140737488355328) (h63 : g.n + 1 ≤ maxLen)
    (hk : ∀ a' c' w', Fam L w' (l1 ++ itG e kk s ⟨a', g.n + 1, c'⟩ xs (ys ++ us) :: l2) → Mod (fun b => blk s.a = some b ∨ blk g.a = some b) w w' → (blk a' = blk g.a ∨ ∀ b, blk a' = some b → w.heap.size ≤ b) →
      wpList P ops Q rest (A.put o.dst (.slice a' (g.n + 1) c')) w') (hgx : gx = w.heap.size := by first | rfl | simp) : wpList P ops Q (o :: rest) A (w.alloc (.cells us.toArray e)) :=
  wpList_plain hgd fun _ hK => by
    subst hgx
    have ma : Mod (fun _ => False) w (w.alloc (.cells us.toArray e)) := (Mod.refl _ w).alloc _
    have hA := h.mod0 ma
    have hsz : w.heap.size ≤ (w.alloc (.cells us.toArray e)).heap.size := ma.size
    obtain ⟨a', c', w', hr, h2, h3, h4⟩ := itG.append (ty := o.type) (hA.at_ (itG e kk s g xs ys) (by simp)) ti (Src.ofRd ti.ht 1 1 (Rd.news w us e) (by omega) (by simpa using h1)) (by omega) hb h63
    unfold Oper.wp execOp
    simp only [ho, resolve, invoke, builtin, Sem.run_bind, Sem.run_pure, Result.andThen_ok, List.map_toArray, List.map_cons, List.map_nil, hs, hx, hr]
    refine hK _ _ (hk a' c' w' (hA.upd h3 h2 (fun b hb => ?_)) ((ma.mono (fun _ _ f => f.elim)).step h3 (fun _ _ h => h)) (h4.imp id (fun h b hb => by have := h b hb; omega)))
    rcases hb with hb | hb
    · exact .inl (.inl hb)
    · rcases h4 with e | h4
      · have hb : blk a' = some b := hb
        rw [e] at hb; exact .inl (.inr hb)
      · exact .inr (h4 b hb)
end
/-- several that were gone on with -/
def itGs (e : TypeId) (kk : Nat) (el gl : Nat → Nat → List Value) (m : Nat) : Nat → List Sl → List Sl → List It
  | i, s :: ss, g :: gs => itG e kk s g (mkL el i s.n) (mkL gl i m) :: itGs e kk el gl m (i + 1) ss gs
  | _, _, _ => []
theorem itGs_snoc (e : TypeId) (kk : Nat) (el gl : Nat → Nat → List Value) (m : Nat) (s g : Sl) : ∀ (i : Nat) (ss gs : List Sl), gs.length = ss.length → itGs e kk el gl m i (ss ++ [s]) (gs ++ [g]) = itGs e kk el gl m i ss gs ++ [itG e kk s g (mkL el (i + ss.length) s.n) (mkL gl (i + ss.length) m)]
  | _, [], [], _ => rfl
  | _, [], _ :: _, h => by cases h
  | _, _ :: _, [], h => by cases h
  | i, a :: ss, b :: gs, h => by
    show _ :: itGs e kk el gl m (i + 1) (ss ++ [s]) (gs ++ [g]) = _
    rw [itGs_snoc e kk el gl m s g (i + 1) ss gs (by simpa using h), List.length_cons, show i + 1 + ss.length = i + (ss.length + 1) by omega]
    rfl
theorem itGs_mem {e : TypeId} {kk : Nat} {el gl : Nat → Nat → List Value} {m : Nat} : ∀ {i : Nat} {ss gs : List Sl} {n : Nat} {s g : Sl}, ss[n]? = some s → gs[n]? = some g → itG e kk s g (mkL el (i + n) s.n) (mkL gl (i + n) m) ∈ itGs e kk el gl m i ss gs
  | i, [], gs, n, s, g, h, _ => by simp at h
  | i, _ :: _, [], n, s, g, _, h => by simp at h
  | i, a :: ss, b :: gs, 0, s, g, h, h' => by
    simp at h h'
    subst h h'
    exact List.mem_cons_self ..
  | i, a :: ss, b :: gs, n + 1, s, g, h, h' => by
    simp at h h'
    have := itGs_mem (e := e) (kk := kk) (el := el) (gl := gl) (m := m) (i := i + 1) h h'
    rw [show i + 1 + n = i + (n + 1) by omega] at this
    exact List.mem_cons_of_mem _ this
theorem pw_get {α : Type} {R : α → α → Prop} {l : List α} (h : l.Pairwise R) {i j : Nat} {x y : α} (hij : i < j) (hi : l[i]? = some x) (hj : l[j]? = some y) : R x y := by
  obtain ⟨h1, rfl⟩ := List.getElem?_eq_some_iff.1 hi
  obtain ⟨h2, rfl⟩ := List.getElem?_eq_some_iff.1 hj
  exact (List.pairwise_iff_getElem.1 h) i j h1 h2 hij
end Go.Mine
