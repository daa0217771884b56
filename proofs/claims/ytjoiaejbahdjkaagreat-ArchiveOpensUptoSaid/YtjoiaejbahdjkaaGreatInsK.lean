/-
  Elements of k cells: copy, append of a make; what a run of stores leaves of a slice of the call's own.
-/
import Derived.Test.YtjoiaejbahdjkaaGreatBase
import Derived.Lib.AppendZerosOnto
import Derived.Laws.IdiomCopy
namespace Go.Mine
open Go Go.RowKit
set_option linter.unusedVariables false
section
variable {P : Program}
theorem run_copy_K (w : World) (dT sT ty elem : TypeId) (k b o dLen dCap : Nat) (a : Addr) (sLen sCap m : Nat) (cs : List Value)
 (hu : P.underlying dT = some (.slice elem)) (hs : (P.info? elem).map (·.size) = some k) (hm : m = Nat.min sLen dLen) (hn : cs.length = m * k)
 (hsrc : ∀ j v, cs[j]? = some v → w.cell? (a.add j) = some v) (hc : ∀ j, j < cs.length → (w.cell? ⟨b, o + j, none⟩).isSome = true) (hf : ∀ j, j < cs.length → w.frozen? ⟨b, o + j, none⟩ = false) (h1 : ∀ v ∈ cs, v.oneCell' = true) :
 (Builtin.copy_ #[dT, sT] ty #[.slice (some ⟨b, o, none⟩) dLen dCap, .slice (some a) sLen sCap]).run P w = .ok (goInt m) (w.setCells b o cs) := by
 have hl := run_loadCells_list (P := P) w a cs hsrc
 have hst := run_storeCells_cells (P := P) b o cs 0 w (by simpa using hc) (by simpa using hf) h1
 cases hq : P.info? elem with
 | none => simp [hq] at hs
 | some i =>
   have hi : i.size = k := by simpa [hq] using hs
   rw [hn] at hl
   simp [Builtin.copy_, run_underlying hu, Builtin.lenOf, Builtin.firstCells, sizeOf, typeInfo, hq, hi, ← hm, hl, hst]
theorem wpL_copy {ops : Array Oper} {rest : List Oper} {o : Oper} {a : Act} {w : World} {Q : Exit → Act → World → Prop} (hgd : o.guard = none) (d s : Operand) (t t' : TypeId)
 (ho : o.op = .call { callee := .builtin .copy, args := #[d, s], argTypes := #[t, t'] }) (v u : Value) (hd : a.eval d = v) (hs : a.eval s = u) {v' : Value} {w' : World}
 (hr : (Builtin.copy_ #[t, t'] o.type #[v, u]).run P w = .ok v' w') (h : wpList P ops Q rest (a.put o.dst v') w') : wpList P ops Q (o :: rest) a w :=
 wpList_plain hgd fun _ hK => by
  unfold Oper.wp execOp
  simp only [ho, resolve, invoke, builtin, Sem.run_bind, Sem.run_pure, Result.andThen_ok, List.map_toArray, List.map_cons, List.map_nil, hd, hs, hr]
  exact hK _ _ h
end
def putsL : Nat → List Value → List Value → List Value
 | _, [], xs => xs
 | o, u :: us, xs => putsL (o + 1) us (xs.set o u)
theorem putsL_eq : ∀ (us : List Value) (o : Nat) (xs : List Value), o + us.length ≤ xs.length → putsL o us xs = xs.take o ++ us ++ xs.drop (o + us.length)
 | [], o, xs, _ => by simp [putsL]
 | u :: us, o, xs, h => by
   simp only [List.length_cons] at h
   rw [putsL, putsL_eq us (o + 1) (xs.set o u) (by rw [List.length_set]; omega)]
   have e1 : (xs.set o u).take (o + 1) = xs.take o ++ [u] := by
    rw [List.take_set, List.take_succ_eq_append_getElem (by omega), List.set_append_right _ _ (by rw [List.length_take]; omega)]
    rw [show o - (xs.take o).length = 0 by rw [List.length_take]; omega]; rfl
   have e2 : (xs.set o u).drop (o + 1 + us.length) = xs.drop (o + (u :: us).length) := by
    rw [List.drop_set_of_lt (by omega), List.length_cons, show o + 1 + us.length = o + (us.length + 1) by omega]
   rw [e1, e2]
   simp
section
variable {w w' : World} {e : TypeId} {k : Nat} {n c : Nat} {xs : List Value}
theorem Own.setCells {b : Nat} : ∀ {us : List Value} {o : Nat} {w : World} {xs : List Value}, Own w e k (some ⟨b, 0, none⟩) n c xs → Own (w.setCells b o us) e k (some ⟨b, 0, none⟩) n c (putsL o us xs)
 | [], _, _, _, h => h
 | u :: us, o, w, xs, h => Own.setCells (us := us) (o := o + 1) (w := w.setCell ⟨b, o, none⟩ u) (xs := xs.set o u) (h.store o u)
theorem Mod.setCells {b : Nat} : ∀ (us : List Value) (o : Nat) (w : World), Mod (fun i => i = b) w (w.setCells b o us)
 | [], _, w => Mod.refl _ w
 | u :: us, o, w => ((Mod.refl (fun i => i = b) w).setCell (p := ⟨b, o, none⟩) (fun _ => rfl) u).trans (Mod.setCells us (o + 1) _)
theorem Own.more {a : Option Addr} (h : Own w e k a n c xs) {m : Nat} (hm : n + m ≤ c) : ∃ ys : List Value, ys.length = m * k ∧ Own w e k a (n + m) c (xs ++ ys) := by
 rcases h.2 with ⟨rfl, rfl, rfl⟩ | ⟨b, cur, rfl, hg, hn, hc, hs, ht⟩
 ·obtain rfl : m = 0 := by omega
  exact ⟨[], by simp, by simpa using h⟩
 ·have hle : (n + m) * k ≤ cur.toList.length := by rw [Array.length_toList, hs]; exact Nat.mul_le_mul_right _ hm
  have hsp : (n + m) * k = n * k + m * k := Nat.add_mul _ _ _
  refine ⟨(cur.toList.drop (n * k)).take (m * k), ?_, ?_, .inr ⟨b, cur, rfl, hg, hm, hc, hs, ?_⟩⟩
  ·rw [List.length_take, List.length_drop]; omega
  ·rw [List.length_append, h.1, List.length_take, List.length_drop]; omega
  ·rw [hsp, List.take_add, ht]
theorem Own.some_cell {b : Nat} (h : Own w e k (some ⟨b, 0, none⟩) n c xs) {j : Nat} (hj : j < n * k) : (w.cell? ⟨b, j, none⟩).isSome = true := by
 have hl : j < xs.length := by rw [h.1]; exact hj
 obtain ⟨b', o, e', hc⟩ := h.rd j _ (List.getElem?_eq_getElem hl)
 cases e'
 rw [Nat.zero_add] at hc
 rw [hc]; rfl
end
section
variable {P : Program} {w : World} {t e : TypeId} {k bytes : Nat}
theorem hi_slice (ti : TI P t e k bytes) (a : Option Addr) (n c : Nat) (hi : Nat) (h2 : hi ≤ c) (w : World) :
 (Instr.slice t (.slice a n c) none (some (.int .i64 hi)) none).run P w = .ok (.slice a hi c) w := by
 obtain ⟨i, z, hinf, hz, rfl, rfl, hzs⟩ := ti.ex
 have h3 : (0 : Int) ≤ hi := by omega
 have h4 : (hi : Int) ≤ c := by omega
 simp [Instr.slice, run_underlying ti.ht, Instr.sliceBounds, Instr.sliceBound, asIntOf, h3, sizeOf, typeInfo, hinf, h2]
 intro _
 cases a with
 | none => rfl
 | some a => simp [Addr.add]
theorem lo_slice (ti : TI P t e k bytes) (b n c : Nat) (lo : Nat) (h1 : lo ≤ n) (h2 : lo < c) (w : World) :
 (Instr.slice t (.slice (some ⟨b, 0, none⟩) n c) (some (.int .i64 lo)) none none).run P w = .ok (.slice (some ⟨b, lo * k, none⟩) (n - lo) (c - lo)) w := by
 have h := run_slice_lo' ti (some ⟨b, 0, none⟩) n c lo (by omega) (by omega) w
 rw [h]
 have e1 : subA (some (⟨b, 0, none⟩ : Addr)) c lo k = some ⟨b, lo * k, none⟩ := by
  unfold subA
  rw [if_neg (by omega)]
  simp [Addr.add_lit]
 simp [e1]
theorem wpL_appendZ {ops : Array Oper} {rest : List Oper} {o : Oper} {A : Act} {Q : Exit → Act → World → Prop} (hgd : o.guard = none) (s x : Operand) (tn : TypeId)
 (ho : o.op = .call { callee := .builtin .append, args := #[s, x], argTypes := #[t, tn] }) (ti : TI P t e k bytes) (htn : P.underlying tn = some (.int .i64))
 {a : Option Addr} {n c : Nat} {xs : List Value} (hs : A.eval s = .slice a n c) (h : Rd w a xs) (hxl : xs.length = n * k) {m N : Nat} {z0 : Int} (hx : A.eval x = .int .i64 z0) (hz0 : z0 = (m : Int)) (hN : n + m = N) (hm : 0 < m) (hg : c < n + m)
 (hb : (n + m) * bytes ≤ 140737488355328) (h63 : n + m ≤ maxLen)
 (hk : ∀ g c' zs w', zs.length = m * k → Own w' e k (some ⟨g, 0, none⟩) N c' (xs ++ zs) → Mod (fun _ => False) w w' → w.heap.size ≤ g →
  wpList P ops Q rest (A.put o.dst (.slice (some ⟨g, 0, none⟩) N c')) w') : wpList P ops Q (o :: rest) A w := by
 subst hz0 hN
 obtain ⟨i, z, hi, hz, rfl, rfl, hzs⟩ := ti.ex
 have hold : (Builtin.firstCells i.size n (.slice a n c)).run P w.drew = .ok xs.toArray w.drew := by
  cases a with
  | none =>
    have hx0 : xs = [] := by
     cases xs with
     | nil => rfl
     | cons u xs => obtain ⟨b, o, e, _⟩ := h 0 u rfl; cases e
    subst hx0
    have hn : n = 0 := by
     have h1 : n * i.size = 0 := by simpa using hxl.symm
     rcases Nat.mul_eq_zero.1 h1 with h2 | h2
     ·exact h2
     ·have := ti.pos; omega
    subst hn
    exact run_firstCells_none w.drew i.size 0 0 c
  | some ad =>
    refine run_firstCells_some w.drew i.size n ad n c xs hxl (fun j u hu => ?_)
    obtain ⟨b, o, e', hc⟩ := h j u hu
    cases e'
    rw [Addr.add_lit]; exact hc
 have hr : ∀ ty, (Builtin.append_ #[t, tn] ty #[.slice a n c, .int .i64 m]).run P w = _ := fun ty =>
  Lib.run_append_grow_zeros w t tn ty e i z .i64 .i64 ti.ht htn hi hz a n c xs hold m hm ti.pos hg (by unfold maxLen at h63; omega)
   (by have h1 : (n + m) * i.bytes = n * i.bytes + m * i.bytes := Nat.add_mul _ _ _; omega) (growslice_fits hg hb)
 have hge := grownCap_ge w (n + m) c e
 have hcm : grownCap w (n + m) c e ≤ maxLen := grownCap_le_maxLen w (n + m) c e h63
 refine Lib.wpList_append_run _ hgd _ _ _ _ ho _ _ hs hx _ _ (hr _) ?_
 have hzl : (Builtin.zeroCells z.cells m).toList.length = m * i.size := by rw [Array.length_toList, size_zeroCells, hzs]
 refine hk w.heap.size _ (Builtin.zeroCells z.cells m).toList _ hzl ⟨?_, .inr ⟨w.heap.size, _, rfl, heap_alloc_new w.drew _, hge, hcm, ?_, ?_⟩⟩ ((Mod.refl _ w).drew.alloc _) (Nat.le_refl _)
 ·rw [List.length_append, hzl, hxl, Nat.add_mul]
 ·simp only [Array.size_append, List.size_toArray, size_zeroCells, hzs, hxl, ← Nat.add_mul]
  congr 1
  omega
 ·simp only [Array.toList_append]
  have hl : (xs ++ (Builtin.zeroCells z.cells m).toList).length = (n + m) * i.size := by
   rw [List.length_append, hzl, hxl, Nat.add_mul]
  rw [← hl]
  exact List.take_left
theorem run_copy_own {ti : TI P t e k bytes} {ty : TypeId} {b n c lo dc sl sc m : Nat} {xs us : List Value} {sa : Option Addr} (h : Own w e k (some ⟨b, 0, none⟩) n c xs) (hlo : lo + m ≤ n) (hl : us.length = m * k) (dl : Nat) (hmin : m = Nat.min sl dl) (hm : 0 < m) (hr : Rd w sa us) (h1 : ∀ u ∈ us, u.oneCell' = true) :
 ∃ w', (Builtin.copy_ #[t, t] ty #[.slice (some ⟨b, lo * k, none⟩) dl dc, .slice sa sl sc]).run P w = .ok (goInt m) w' ∧ Own w' e k (some ⟨b, 0, none⟩) n c (xs.take (lo * k) ++ us ++ xs.drop ((lo + m) * k)) ∧ Mod (fun i => i = b) w w' := by
 have hp := ti.pos
 have hsz : (P.info? e).map (·.size) = some k := by
  obtain ⟨i, z, hi, _, h2, _⟩ := ti.ex
  rw [hi]; simp [h2]
 obtain ⟨ad, rfl⟩ : ∃ ad, sa = some ad := by
  cases us with
  | nil =>
    have h1 : m * k = 0 := by simpa using hl.symm
    rcases Nat.mul_eq_zero.1 h1 with h2 | h2 <;> omega
  | cons u us => obtain ⟨b, o, e, _⟩ := hr 0 u rfl; exact ⟨_, e⟩
 have hle : lo * k + us.length ≤ xs.length := by
  rw [hl, h.1, ← Nat.add_mul]; exact Nat.mul_le_mul_right _ hlo
 have hrun := run_copy_K (P := P) w t t ty e k b (lo * k) dl dc ad sl sc m us ti.ht hsz hmin hl
  (fun j v hj => by
   obtain ⟨b', o, e', hc⟩ := hr j v hj
   cases e'
   rw [Addr.add_lit]; exact hc)
  (fun j hj => h.some_cell (by rw [← h.1]; omega)) (fun j _ => h.frozen rfl) h1
 have hO := Own.setCells (us := us) (o := lo * k) h
 rw [putsL_eq us (lo * k) xs hle, hl, ← Nat.add_mul] at hO
 exact ⟨_, hrun, hO, Mod.setCells us (lo * k) w⟩
theorem wpL_copyK {ops : Array Oper} {rest : List Oper} {o : Oper} {A : Act} {Q : Exit → Act → World → Prop} (hgd : o.guard = none) (d s : Operand)
 (ho : o.op = .call { callee := .builtin .copy, args := #[d, s], argTypes := #[t, t] }) (ti : TI P t e k bytes) {b n c lo dl dc sl sc m : Nat} {xs us : List Value} {sa : Option Addr}
 (hd : A.eval d = .slice (some ⟨b, lo * k, none⟩) dl dc) (hs : A.eval s = .slice sa sl sc) (h : Own w e k (some ⟨b, 0, none⟩) n c xs) (hlo : lo + m ≤ n) (hl : us.length = m * k) (hmin : m = Nat.min sl dl) (hm : 0 < m) (hr : Rd w sa us) (h1 : ∀ u ∈ us, u.oneCell' = true)
 (hk : ∀ w', Own w' e k (some ⟨b, 0, none⟩) n c (xs.take (lo * k) ++ us ++ xs.drop ((lo + m) * k)) → Mod (fun i => i = b) w w' → wpList P ops Q rest (A.put o.dst (goInt m)) w') : wpList P ops Q (o :: rest) A w := by
 obtain ⟨w', hrun, hO, hM⟩ := run_copy_own (ti := ti) (ty := o.type) (dc := dc) (sc := sc) h hlo hl dl hmin hm hr h1
 exact wpL_copy hgd d s t t ho _ _ hd hs hrun (hk w' hO hM)
theorem wpO_copyK {o : Oper} {A : Act} {K : Act → World → Prop} {Q : Exit → Act → World → Prop} (d s : Operand)
 (ho : o.op = .call { callee := .builtin .copy, args := #[d, s], argTypes := #[t, t] }) (ti : TI P t e k bytes) {b n c lo dl dc sl sc m : Nat} {xs us : List Value} {sa : Option Addr}
 (hd : A.eval d = .slice (some ⟨b, lo * k, none⟩) dl dc) (hs : A.eval s = .slice sa sl sc) (h : Own w e k (some ⟨b, 0, none⟩) n c xs) (hlo : lo + m ≤ n) (hl : us.length = m * k) (hmin : m = Nat.min sl dl) (hm : 0 < m) (hr : Rd w sa us) (h1 : ∀ u ∈ us, u.oneCell' = true)
 (hk : ∀ w', Own w' e k (some ⟨b, 0, none⟩) n c (xs.take (lo * k) ++ us ++ xs.drop ((lo + m) * k)) → Mod (fun i => i = b) w w' → K (A.put o.dst (goInt m)) w') : o.wp P A w K Q := by
 obtain ⟨w', hrun, hO, hM⟩ := run_copy_own (ti := ti) (ty := o.type) (dc := dc) (sc := sc) h hlo hl dl hmin hm hr h1
 unfold Oper.wp execOp
 simp only [ho, resolve, invoke, builtin, Sem.run_bind, Sem.run_pure, Result.andThen_ok, List.map_toArray, List.map_cons, List.map_nil, hd, hs, hrun]
 exact hk w' hO hM
end
end Go.Mine
