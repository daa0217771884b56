/-
  Slices that lie in blocks of their own, several side by side: what a store into one, or an append to one, leaves of the others.
-/
import Derived.Test.YteecbbnpgmceiaaGreatDoorOrd
namespace Go.Mine
open Go Go.RowKit

/-- a slice, its cells; of the call's own, with room, or cut to its length -/
structure Ob where
  e : TypeId
  k : Nat
  a : Option Addr
  n : Nat
  c : Nat
  xs : List Value
def CutAt (w : World) (e : TypeId) (k : Nat) (a : Option Addr) (n : Nat) (xs : List Value) : Prop :=
  xs.length = n * k ∧ ((a = none ∧ n = 0) ∨ ∃ b cur, a = some ⟨b, 0, none⟩ ∧ w.heap[b]? = some (.cells cur e (0, 0)) ∧ n * k ≤ cur.size ∧ cur.toList.take (n * k) = xs)
def ObAt (w : World) (o : Ob) : Prop := Own w o.e o.k o.a o.n o.c o.xs ∨ (o.c = o.n ∧ CutAt w o.e o.k o.a o.n o.xs)
section
variable {w w' : World} {o : Ob}
theorem ObAt.len (h : ObAt w o) : o.xs.length = o.n * o.k := by
  rcases h with h | ⟨_, h⟩
  · exact h.1
  · exact h.1
theorem ObAt.rd (h : ObAt w o) : Rd w o.a o.xs := by
  rcases h with h | ⟨_, h⟩
  · exact h.rd
  · intro i u hu
    rcases h.2 with ⟨h1, h2⟩ | ⟨b, cur, h1, hg, _, htake⟩
    · have := h.1; rw [h2] at this; simp at this; rw [this] at hu; simp at hu
    · refine ⟨b, 0, h1, ?_⟩
      rw [Nat.zero_add, cell_of_row w b i cur o.e (0, 0) hg]
      rw [← htake, List.getElem?_take] at hu
      split at hu
      · simpa using hu
      · cases hu
theorem ObAt.mod {S : Nat → Prop} (h : ObAt w o) (m : Mod S w w') (hs : ∀ b, blk o.a = some b → ¬ S b) : ObAt w' o := by
  rcases h with h | ⟨hc, h⟩
  · exact .inl (h.mod m hs)
  · refine .inr ⟨hc, h.1, ?_⟩
    rcases h.2 with h1 | ⟨b, cur, h1, hg, rest⟩
    · exact .inl h1
    · exact .inr ⟨b, cur, h1, m.at hg (hs b (by rw [h1]; rfl)), rest⟩
theorem ObAt.lt (h : ObAt w o) : ∀ b, blk o.a = some b → b < w.heap.size := by
  intro b hb
  rcases h with h | ⟨_, h⟩
  · exact h.lt b hb
  · rcases h.2 with ⟨h1, _⟩ | ⟨b', cur, h1, hg, _⟩
    · rw [h1] at hb; simp at hb
    · rw [h1] at hb; simp at hb; subst hb; exact (Array.getElem?_eq_some_iff.1 hg).1
theorem ObAt.atHead (h : ObAt w o) (hn : o.n ≠ 0) : ∃ b, o.a = some ⟨b, 0, none⟩ := by
  rcases h with h | ⟨_, h⟩
  · exact h.atHead hn
  · rcases h.2 with ⟨_, h1⟩ | ⟨b, cur, h1, _⟩
    · exact absurd h1 hn
    · exact ⟨b, h1⟩
theorem ObAt.frozen (h : ObAt w o) {b j : Nat} (hb : blk o.a = some b) : w.frozen? ⟨b, j, none⟩ = false := by
  rcases h with h | ⟨_, h⟩
  · exact h.frozen hb
  · rcases h.2 with ⟨h1, _⟩ | ⟨b', cur, h1, hg, _⟩
    · rw [h1] at hb; simp at hb
    · rw [h1] at hb; simp at hb; subst hb; simp [World.frozen?, hg]
theorem ObAt.le (h : ObAt w o) : o.n ≤ o.c := by
  rcases h with h | ⟨hc, _⟩
  · rcases h.2 with ⟨_, h1, h2⟩ | ⟨_, _, _, _, h1, _⟩
    · omega
    · exact h1
  · omega
/-- a store into it -/
theorem ObAt.store {b : Nat} (h : ObAt w o) (hb : o.a = some ⟨b, 0, none⟩) (j : Nat) (u : Value) : ObAt (w.setCell ⟨b, j, none⟩ u) { o with xs := o.xs.set j u } := by
  obtain ⟨e, k, a, n, c, xs⟩ := o
  simp only at hb
  subst hb
  rcases h with h | ⟨hc, h⟩
  · exact .inl (h.store j u)
  · refine .inr ⟨hc, by rw [List.length_set]; exact h.1, ?_⟩
    rcases h.2 with ⟨h1, _⟩ | ⟨b', cur, h1, hg, hn, ht⟩
    · cases h1
    · simp only at h1 hg hn ht
      cases h1
      refine .inr ⟨b, cur.setIfInBounds j u, rfl, ?_, by simpa using hn, ?_⟩
      · simp [World.setCell, Array.getElem?_modify, hg]
      · simp only
        rw [Array.toList_setIfInBounds, List.take_set, ht]
end
/-- several, each in a block that no other one lies in -/
structure Obs (L : Nat) (w : World) (os : List Ob) : Prop where
  at_ : ∀ o ∈ os, ObAt w o
  sz : L ≤ w.heap.size
  lo : ∀ o ∈ os, ∀ b, blk o.a = some b → L ≤ b
  dj : ∀ (i j : Nat) (o p : Ob), i ≠ j → os[i]? = some o → os[j]? = some p → ∀ b, blk o.a = some b → ¬ blk p.a = some b
section
variable {w w' : World} {os : List Ob} {L : Nat}
theorem Obs.get (h : Obs L w os) {i : Nat} {o : Ob} (hi : os[i]? = some o) : ObAt w o := h.at_ o (List.mem_of_getElem? hi)
theorem Obs.mod0 (h : Obs L w os) (m : Mod (fun _ => False) w w') : Obs L w' os := ⟨fun o ho => (h.at_ o ho).mod m (fun _ _ => id), Nat.le_trans h.sz m.size, h.lo, h.dj⟩
theorem Obs.nil (w : World) : Obs w.heap.size w [] := ⟨fun o ho => (List.not_mem_nil ho).elim, Nat.le_refl _, fun o ho => (List.not_mem_nil ho).elim, fun i j o p _ h => by simp at h⟩
/-- one more, in a block that was not there -/
theorem Obs.push (h : Obs L w os) (m : Mod (fun _ => False) w w') {o : Ob} (ho : ObAt w' o) (hf : ∀ b, blk o.a = some b → w.heap.size ≤ b) : Obs L w' (os ++ [o]) := by
  refine ⟨fun p hp => ?_, Nat.le_trans h.sz m.size, fun p hp b hb => ?_, fun i j p q hij hp hq b hb => ?_⟩
  · rcases List.mem_append.1 hp with hp | hp
    · exact (h.at_ p hp).mod m (fun _ _ => id)
    · rw [List.mem_singleton] at hp; subst hp; exact ho
  · rcases List.mem_append.1 hp with hp | hp
    · exact h.lo p hp b hb
    · rw [List.mem_singleton] at hp; subst hp; exact Nat.le_trans h.sz (hf b hb)
  · have hl : ∀ {i p}, (os ++ [o])[i]? = some p → (os[i]? = some p ∧ i < os.length) ∨ (p = o ∧ i = os.length) := by
      intro i p hp
      by_cases hi : i < os.length
      · rw [List.getElem?_append_left hi] at hp; exact .inl ⟨hp, hi⟩
      · rw [List.getElem?_append_right (by omega)] at hp
        have h1 := (List.getElem?_eq_some_iff.1 hp)
        obtain ⟨h2, h3⟩ := h1
        simp at h2 h3
        exact .inr ⟨h3.symm, by omega⟩
    rcases hl hp with ⟨h1, h2⟩ | ⟨h1, h2⟩ <;> rcases hl hq with ⟨k1, k2⟩ | ⟨k1, k2⟩
    · exact h.dj i j p q hij h1 k1 b hb
    · subst k1
      intro hh
      have := hf b hh
      have := (h.get h1).lt b hb
      omega
    · subst h1
      intro hh
      have := hf b hb
      have := (h.get k1).lt b hh
      omega
    · omega
/-- one of them has turned, in its block or into a new one -/
theorem Obs.upd (h : Obs L w os) {i : Nat} {o o' : Ob} (hi : os[i]? = some o) (m : Mod (fun b => blk o.a = some b) w w') (ho : ObAt w' o') (hb : blk o'.a = blk o.a ∨ ∃ g, blk o'.a = some g ∧ w.heap.size ≤ g) : Obs L w' (os.set i o') := by
  have hil : i < os.length := (List.getElem?_eq_some_iff.1 hi).1
  have hg : ∀ j p, (os.set i o')[j]? = some p → (j = i ∧ p = o') ∨ (j ≠ i ∧ os[j]? = some p) := by
    intro j p hp
    rw [List.getElem?_set] at hp
    by_cases hj : i = j
    · rw [if_pos hj, if_pos hil] at hp; cases hp; exact .inl ⟨hj.symm, rfl⟩
    · rw [if_neg hj] at hp; exact .inr ⟨fun e => hj e.symm, hp⟩
  refine ⟨fun p hp => ?_, Nat.le_trans h.sz m.size, fun p hp b hbb => ?_, fun j k p q hjk hp hq b hbb => ?_⟩
  · obtain ⟨j, hj, rfl⟩ := List.getElem_of_mem hp
    rcases hg j _ (List.getElem?_eq_getElem hj) with ⟨_, e⟩ | ⟨hj, e⟩
    · rw [e]; exact ho
    · exact (h.get e).mod m fun b hb hh => h.dj i j o _ (fun e => hj e.symm) hi e b hh hb
  · obtain ⟨j, hj, rfl⟩ := List.getElem_of_mem hp
    rcases hg j _ (List.getElem?_eq_getElem hj) with ⟨_, e⟩ | ⟨hj, e⟩
    · rw [e] at hbb
      rcases hb with hb | ⟨g, hb, hlt⟩
      · rw [hb] at hbb; exact h.lo o (List.mem_of_getElem? hi) b hbb
      · rw [hb] at hbb; cases hbb; exact Nat.le_trans h.sz hlt
    · exact h.lo _ (List.mem_of_getElem? e) b hbb
  · have hnew : ∀ j q, j ≠ i → os[j]? = some q → ∀ b, blk o'.a = some b → ¬ blk q.a = some b := by
      intro j q hj hq b hbb hh
      rcases hb with hb | ⟨g, hb, hlt⟩
      · rw [hb] at hbb; exact h.dj i j o q (fun e => hj e.symm) hi hq b hbb hh
      · rw [hb] at hbb; cases hbb
        have := (h.get hq).lt b hh
        omega
    rcases hg j p hp with ⟨h1, h2⟩ | ⟨h1, h2⟩ <;> rcases hg k q hq with ⟨k1, k2⟩ | ⟨k1, k2⟩
    · omega
    · subst h2; exact hnew k q k1 k2 b hbb
    · subst k2; intro hh; exact hnew j p h1 h2 b hh hbb
    · exact h.dj j k p q hjk h2 k2 b hbb
/-- a store into one of them -/
theorem Obs.store (h : Obs L w os) {i : Nat} {o : Ob} (hi : os[i]? = some o) {b : Nat} (hb : o.a = some ⟨b, 0, none⟩) (j : Nat) (u : Value) : Obs L (w.setCell ⟨b, j, none⟩ u) (os.set i { o with xs := o.xs.set j u }) :=
  h.upd hi ((Mod.refl (fun k => blk o.a = some k) w).setCell (p := ⟨b, j, none⟩) (fun _ => by rw [hb]; rfl) u) ((h.get hi).store hb j u) (.inl rfl)
/-- what turns one of them turns nothing that was there at the beginning -/
theorem Obs.base (h : Obs L w os) {u : World} (hu : u.heap.size ≤ L) (m0 : Mod (fun _ => False) u w) {i : Nat} {o : Ob} (hi : os[i]? = some o) (m : Mod (fun b => blk o.a = some b) w w') : Mod (fun _ => False) u w' :=
  m0.step m fun b hb e => by have := h.lo o (List.mem_of_getElem? hi) b e; omega
end
section
variable {P : Program} {w : World}
theorem run_append_ob {t tx ty : TypeId} {bytes : Nat} {o : Ob} (ti : TI P t o.e o.k bytes) (h : ObAt w o)
    {x : Value} {m : Nat} {news : List Value} (hs : Src P o.k tx x m news w) (hm : 0 < m) (hb : (o.n + m) * bytes ≤ 140737488355328) (h63 : o.n + m ≤ maxLen) :
    ∃ a' c' w', (Builtin.append_ #[t, tx] ty #[.slice o.a o.n o.c, x]).run P w = .ok (.slice a' (o.n + m) c') w' ∧ Own w' o.e o.k a' (o.n + m) c' (o.xs ++ news) ∧
      Mod (fun b => blk o.a = some b) w w' ∧ (blk a' = blk o.a ∨ ∃ b, blk a' = some b ∧ w.heap.size ≤ b) := by
  obtain ⟨e, k, a, n, c, xs⟩ := o
  simp only at *
  rcases h with h | ⟨hc, h⟩
  · obtain ⟨a', c', w', h1, h2, h3, h4, _⟩ := run_append_mine (ty := ty) ti h hs hb h63
    exact ⟨a', c', w', h1, h2, h3, h4⟩
  · simp only at hc
    subst hc
    rcases h.2 with ⟨h1, h2⟩ | ⟨b, cur, h1, hg, hn, htake⟩
    · simp only at h1 h2
      subst h1 h2
      have hx : xs = [] := List.eq_nil_of_length_eq_zero (by simpa using h.1)
      subst hx
      obtain ⟨a', c', w', h1, h2, h3, h4, _⟩ := run_append_mine (ty := ty) ti (Own.nil w e k) hs hb h63
      exact ⟨a', c', w', h1, h2, h3, h4⟩
    · simp only at h1 hg hn htake
      subst h1
      have hrd : Rd w (some ⟨b, 0, none⟩) xs := ObAt.rd (o := ⟨e, k, some ⟨b, 0, none⟩, c, c, xs⟩) (.inr ⟨rfl, h⟩)
      have hxl : xs.length = c * k := h.1
      obtain ⟨i, z, hi, hz, rfl, rfl, hzs⟩ := ti.ex
      have hlen : (xs ++ news).length = (c + m) * i.size := by rw [List.length_append, hxl, hs.newsLen, Nat.add_mul]
      have hnew : c + m ≤ 9223372036854775807 := by unfold maxLen at h63; omega
      have holds : ∀ j u, xs[j]? = some u → w.drew.cell? ((⟨b, 0, none⟩ : Addr).add j) = some u := fun j u hu => by
        have hadd : (⟨b, 0, none⟩ : Addr).add j = ⟨b, j, none⟩ := by unfold Addr.add; split <;> simp_all
        rw [hadd]
        obtain ⟨b', o', e', hc⟩ := hrd j u hu
        cases e'
        simpa using hc
      have hold := run_firstCells_some (P := P) w.drew i.size c ⟨b, 0, none⟩ c c xs hxl holds
      have hr := run_append_grow_src (P := P) w t tx ty e i z ti.ht hi hz (some ⟨b, 0, none⟩) c c xs hold x m news hs (by omega) (by omega) (growslice_fits (by omega) hb)
      have hge := grownCap_ge w (c + m) c e
      have hcm : grownCap w (c + m) c e ≤ maxLen := grownCap_le_maxLen w (c + m) c e h63
      refine ⟨_, _, _, hr, ⟨hlen, .inr ⟨w.heap.size, _, rfl, heap_alloc_new w.drew _, hge, hcm, ?_, ?_⟩⟩, (Mod.refl _ w).drew.alloc _, .inr ⟨w.heap.size, rfl, Nat.le_refl _⟩⟩
      · simp only [Array.size_append, List.size_toArray, size_zeroCells, hzs, hlen, ← Nat.add_mul]
        congr 1
        omega
      · simp only [Array.toList_append]
        rw [← hlen]
        exact List.take_left
/-- append of one element that was just laid to one of several: 'append(s, x)' -/
theorem wpL_appendOb {ops : Array Oper} {rest : List Oper} {op : Oper} {A : Act} {Q : Exit → Act → World → Prop} (hgd : op.guard = none) (s x : Operand) (t : TypeId)
    (ho : op.op = .call { callee := .builtin .append, args := #[s, x], argTypes := #[t, t] }) {L : Nat} {os : List Ob} (h : Obs L w os) {i : Nat} {o : Ob} (hi : os[i]? = some o) {bytes : Nat} (ti : TI P t o.e o.k bytes)
    (hs : A.eval s = .slice o.a o.n o.c)
    {m m' gx : Nat} {us : List Value} (hx : A.eval x = .slice (some ⟨gx, 0, none⟩) m m') (hu : us.length = m * o.k) (h1 : us.all Value.oneCell' = true) (hm : 0 < m)
    (hb : (o.n + m) * bytes ≤ 140737488355328) (h63 : o.n + m ≤ maxLen)
    (hk : ∀ a' c' w', Obs L w' (os.set i { o with a := a', n := o.n + m, c := c', xs := o.xs ++ us }) → Mod (fun b => blk o.a = some b) w w' → Own w' o.e o.k a' (o.n + m) c' (o.xs ++ us) →
      wpList P ops Q rest (A.put op.dst (.slice a' (o.n + m) c')) w') (hgx : gx = w.heap.size := by first | rfl | simp) : wpList P ops Q (op :: rest) A (w.alloc (.cells us.toArray o.e)) :=
  wpList_plain hgd fun _ hK => by
    subst hgx
    have hA : Obs L (w.alloc (.cells us.toArray o.e)) os := h.mod0 ((Mod.refl _ w).alloc _)
    obtain ⟨a', c', w', hr, h2, h3, h4⟩ := run_append_ob (ty := op.type) ti (hA.get hi) (Src.ofRd ti.ht m m' (Rd.news w us o.e) hu (by simpa using h1)) hm hb h63
    unfold Oper.wp execOp
    simp only [ho, resolve, invoke, builtin, Sem.run_bind, Sem.run_pure, Result.andThen_ok, List.map_toArray, List.map_cons, List.map_nil, hs, hx, hr]
    have hsz : w.heap.size ≤ (w.alloc (.cells us.toArray o.e)).heap.size := by rw [World.size_alloc]; omega
    exact hK _ _ (hk a' c' w' (hA.upd hi h3 (.inl h2) h4) (Mod.step ((Mod.refl (fun b => blk o.a = some b) w).alloc _) h3 (fun _ _ h => h)) h2)
end
end Go.Mine
