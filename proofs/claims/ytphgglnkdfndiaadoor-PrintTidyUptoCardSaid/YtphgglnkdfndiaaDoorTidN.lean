/-
  The mixed program of PrintTidy: its box, its rules in a block of their own.
-/
import Derived.Test.YtphgglnkdfndiaaDoorTidM
import Derived.Test.YtphgglnkdfndiaaDoorTidP
namespace Go.Proofs.YtphgglnkdfndiaaDoor
open Go Go.RowKit Go.Mine
set_option linter.unusedVariables false

abbrev Rv := Rm × Value × Value
/-- a program that may be written to: its box M, its rules in block gm -/
structure Mix (w : World) (M gm mc : Nat) (zs : List Rv) : Prop where
  box : w.heap[M]? = some (.cells #[.slice (some ⟨gm, 0, none⟩) zs.length mc] 24 (0, 0))
  rul : ∃ cur, w.heap[gm]? = some (.cells cur 38 (0, 0)) ∧ zs.length * 3 ≤ cur.size ∧ cur.toList.take (zs.length * 3) = rmsC zs
  each : ∀ z ∈ zs, RmG w (fun b => b ≠ M ∧ b ≠ gm) z.2.1 z.2.2 z.1
section
variable {w w' : World} {M gm mc : Nat} {zs : List Rv}
theorem Mix.ne (h : Mix w M gm mc zs) : M ≠ gm := by
  intro e
  obtain ⟨cur, hg, _⟩ := h.rul
  have hb := h.box
  rw [e, hg] at hb
  injection hb with hb
  injection hb with _ hb
  exact absurd hb (by decide)
theorem Mix.mod0 (h : Mix w M gm mc zs) (m : Mod (fun _ => False) w w') : Mix w' M gm mc zs := by
  obtain ⟨cur, hg, h1, h2⟩ := h.rul
  exact ⟨m.at h.box id, ⟨cur, m.at hg id, h1, h2⟩, fun z hz => (h.each z hz).step m (fun _ _ _ => id) (fun _ _ => id)⟩
theorem Mix.ltM (h : Mix w M gm mc zs) : M < w.heap.size := (Array.getElem?_eq_some_iff.1 h.box).1
theorem Mix.ltG (h : Mix w M gm mc zs) : gm < w.heap.size := by
  obtain ⟨cur, hg, _⟩ := h.rul
  exact (Array.getElem?_eq_some_iff.1 hg).1
theorem Mix.rd (h : Mix w M gm mc zs) : Rd w (some ⟨gm, 0, none⟩) (rmsC zs) := by
  obtain ⟨cur, hg, h1, h2⟩ := h.rul
  intro i u hu
  refine ⟨gm, 0, rfl, ?_⟩
  rw [Nat.zero_add, cell_of_row w gm i cur 38 (0, 0) hg]
  rw [← h2, List.getElem?_take] at hu
  split at hu
  · simpa using hu
  · cases hu
theorem Mix.at (h : Mix w M gm mc zs) : RsAt w (.slice (some ⟨gm, 0, none⟩) (zs.map Prod.fst).length mc) (zs.map Prod.fst) :=
  ⟨_, _, zs, rfl, rfl, h.rd, fun z hz => ⟨(h.each z hz).1.at, (h.each z hz).2.at⟩⟩
theorem Mix.frozen (h : Mix w M gm mc zs) (j : Nat) : w.frozen? ⟨gm, j, none⟩ = false := by
  obtain ⟨cur, hg, _⟩ := h.rul
  exact frozen_at hg
theorem Mix.frozenM (h : Mix w M gm mc zs) : w.frozen? ⟨M, 0, none⟩ = false := frozen_at h.box
theorem Mix.cellM (h : Mix w M gm mc zs) : w.cell? ⟨M, 0, none⟩ = some (.slice (some ⟨gm, 0, none⟩) zs.length mc) := cell_at h.box rfl
theorem Mix.get (h : Mix w M gm mc zs) {k : Nat} (hk : k < zs.length) : w.cell? ⟨gm, k * 3, none⟩ = some (.string zs[k].1.head.pred) ∧ w.cell? ⟨gm, k * 3 + 1, none⟩ = some zs[k].2.1 ∧ w.cell? ⟨gm, k * 3 + 2, none⟩ = some zs[k].2.2 := by
  obtain ⟨b, o, e, x0, x1, x2⟩ := rd_cellR h.rd (i := k) (r := zs[k].1) (s := zs[k].2.1) (t := zs[k].2.2) (by rw [List.getElem?_eq_getElem hk])
  cases e
  rw [Nat.zero_add] at x0 x1 x2
  exact ⟨x0, x1, x2⟩
theorem Mix.sl (h : Mix w M gm mc zs) {k : Nat} (hk : k < zs.length) : (∃ a n c, zs[k].2.1 = .slice a n c) ∧ ∃ a n c, zs[k].2.2 = .slice a n c := by
  obtain ⟨⟨a, c, e, _⟩, a2, c2, _, e2, _⟩ := h.each zs[k] (List.getElem_mem hk)
  exact ⟨⟨_, _, _, e⟩, _, _, _, e2⟩
theorem rms_set : ∀ (zs : List Rv) (k : Nat) (z : Rv), k < zs.length → (((rmsC zs).set (k * 3) (.string z.1.head.pred)).set (k * 3 + 1) z.2.1).set (k * 3 + 2) z.2.2 = rmsC (zs.set k z)
  | [], k, _, hk => absurd hk (Nat.not_lt_zero _)
  | x :: zs, 0, z, _ => rfl
  | x :: zs, k + 1, z, hk => by
    have e : rmsC (x :: zs) = rmC x ++ rmsC zs := rfl
    have hl : (rmC x).length = 3 := rfl
    have sh : ∀ (l : List Value) (j : Nat) (u : Value), (rmC x ++ l).set ((k + 1) * 3 + j) u = rmC x ++ l.set (k * 3 + j) u := fun l j u => by
      rw [List.set_append_right _ _ (by rw [hl]; omega), hl, show (k + 1) * 3 + j - 3 = k * 3 + j by omega]
    have sh0 := fun l u => sh l 0 u
    simp only [Nat.add_zero] at sh0
    rw [e, sh0, sh, sh, rms_set zs k z (by simpa using hk)]
    rfl
theorem Mix.put (h : Mix w M gm mc zs) {k : Nat} (hk : k < zs.length) {z : Rv} (hz : RmG w (fun b => b ≠ M ∧ b ≠ gm) z.2.1 z.2.2 z.1) :
    Mix (((w.setCell ⟨gm, k * 3, none⟩ (.string z.1.head.pred)).setCell ⟨gm, k * 3 + 1, none⟩ z.2.1).setCell ⟨gm, k * 3 + 2, none⟩ z.2.2) M gm mc (zs.set k z) ∧
      Mod (fun b => b = gm) w (((w.setCell ⟨gm, k * 3, none⟩ (.string z.1.head.pred)).setCell ⟨gm, k * 3 + 1, none⟩ z.2.1).setCell ⟨gm, k * 3 + 2, none⟩ z.2.2) := by
  have hm : Mod (fun b => b = gm) w (((w.setCell ⟨gm, k * 3, none⟩ (.string z.1.head.pred)).setCell ⟨gm, k * 3 + 1, none⟩ z.2.1).setCell ⟨gm, k * 3 + 2, none⟩ z.2.2) :=
    (((Mod.refl (fun b => b = gm) w).setCell (p := ⟨gm, k * 3, none⟩) (fun _ => rfl) _).setCell (p := ⟨gm, k * 3 + 1, none⟩) (fun _ => rfl) _).setCell (p := ⟨gm, k * 3 + 2, none⟩) (fun _ => rfl) _
  refine ⟨⟨?_, ?_, fun x hx => ?_⟩, hm⟩
  · rw [List.length_set]; exact hm.at h.box h.ne
  · obtain ⟨cur, hg, h1, h2⟩ := h.rul
    have g1 := heap_setCell_at (j := k * 3) (.string z.1.head.pred) hg
    have g2 := heap_setCell_at (j := k * 3 + 1) z.2.1 g1
    have g3 := heap_setCell_at (j := k * 3 + 2) z.2.2 g2
    refine ⟨_, g3, by simpa using h1, ?_⟩
    rw [List.length_set, ← rms_set zs k z hk, ← h2]
    simp only [Array.toList_setIfInBounds, List.take_set]
  · have hst : ∀ {s b : Value} {r : Rm}, RmG w (fun b => b ≠ M ∧ b ≠ gm) s b r → RmG _ (fun b => b ≠ M ∧ b ≠ gm) s b r := fun hh => hh.step hm (fun b _ g e => g.2 e) (fun _ _ => id)
    rcases List.mem_or_eq_of_mem_set hx with hx | rfl
    · exact hst (h.each x hx)
    · exact hst hz
theorem Mix.getG (h : Mix w M gm mc zs) {k : Nat} (hk : k < zs.length) : RmG w (fun b => b ≠ M ∧ b ≠ gm) zs[k].2.1 zs[k].2.2 zs[k].1 := h.each _ (List.getElem_mem hk)
/-- a new block for the rules and one more -/
theorem Mix.grown {u x : World} (h : Mix u M gm mc zs) (m : Mod (fun _ => False) u x) {a : Option Addr} {n c : Nat} {z : Rv} (HO : Mine.Own x 38 3 a n c (rmsC zs ++ rmsC [z])) (hn : n = zs.length + 1) (hF : ∀ b, Mine.blk a = some b → u.heap.size ≤ b)
    (hz : RmG u (fun b => b ≠ M ∧ b ≠ gm) z.2.1 z.2.2 z.1) :
    ∃ g', a = some ⟨g', 0, none⟩ ∧ u.heap.size ≤ g' ∧ Mix (x.setCell ⟨M, 0, none⟩ (.slice a n c)) M g' c (zs ++ [z]) ∧ Mod (fun b => b = M) u (x.setCell ⟨M, 0, none⟩ (.slice a n c)) := by
  subst hn
  have hM := h.ltM
  have hbx := heap_setCell_at (j := 0) (Value.slice a (zs.length + 1) c) (m.at h.box id)
  have hm : Mod (fun b => b = M) x (x.setCell ⟨M, 0, none⟩ (.slice a (zs.length + 1) c)) := (Mod.refl (fun b => b = M) x).setCell (p := ⟨M, 0, none⟩) (fun _ => rfl) _
  have hmu : Mod (fun b => b = M) u (x.setCell ⟨M, 0, none⟩ (.slice a (zs.length + 1) c)) := (m.mono (T := fun b => b = M) (fun _ _ e => e.elim)).trans hm
  obtain ⟨hl, hO⟩ := HO
  rcases hO with ⟨_, h0, _⟩ | ⟨g', cur, rfl, hg, hnc, _, hcs, htk⟩
  · omega
  · have hg' := hF g' rfl
    refine ⟨g', rfl, hg', ⟨?_, ⟨cur, hm.at hg (by omega), ?_, ?_⟩, fun y hy => ?_⟩, hmu⟩
    · rw [List.length_append]; exact hbx
    · rw [List.length_append, hcs]; exact Nat.mul_le_mul_right _ hnc
    · rw [List.length_append, rmsC_append]; exact htk
    · have hst : ∀ {s b : Value} {r : Rm}, RmG u (fun b => b ≠ M ∧ b ≠ gm) s b r → RmG _ (fun b => b ≠ M ∧ b ≠ g') s b r := fun hh => hh.step hmu (fun b _ g e => g.1 e) (fun b hb g => ⟨g.1, by omega⟩)
      rcases List.mem_append.1 hy with hy | hy
      · exact hst (h.each y hy)
      · rw [List.mem_singleton] at hy; subst hy
        exact hst hz
end
theorem RmG.ofOwn {w : World} {S G : Nat → Prop} {r : Rm} {gh ch gb cb : Nat} {xs : List X3} (h : OwnR w S r gh ch gb cb xs) (hS : ∀ b, S b → G b) : RmG w G (.slice (some ⟨gh, 0, none⟩) r.head.terms.length ch) (.slice (some ⟨gb, 0, none⟩) r.body.length cb) r := by
  have hI := RnI.ofOwn (lo := 0) h (fun _ _ => Nat.zero_le _)
  obtain ⟨a, c, L, e, hx, hr, _⟩ := hI.ls (ls := r.body) (by rw [← h.hx, xsV, List.map_map]; rfl)
  cases e
  refine ⟨h.head.f (hS _ (h.inS _ (by simp))), some ⟨gb, 0, none⟩, cb, xsV xs, rfl, by rw [← h.hx, xsV, List.map_map]; rfl, ?_, fun _ b hb => by cases hb; exact hS _ (h.inS _ (by simp)), fun x hx => ?_⟩
  · have h1 := hI.own.rd.take ((xsV xs).length * 8)
    rw [lmsC_append, List.take_left' (lmsC_length (xsV xs))] at h1
    exact h1
  · obtain ⟨y, hy, rfl⟩ := List.mem_map.1 hx
    have hm : y.2.1 ∈ blks xs := List.mem_map.2 ⟨y, hy, rfl⟩
    exact (h.terms y hy).f (hS _ (h.inS _ (by simp [hm])))
theorem Mix.ofOwn {w : World} {lo gp cp : Nat} {rs : List Rm} {ys : List Yr} (h : OwnP w lo rs gp cp ys) :
    Mix (w.alloc (.cells #[.slice (some ⟨gp, 0, none⟩) rs.length cp] 24)) w.heap.size gp cp (ys.map yV) ∧ (ys.map yV).map Prod.fst = rs := by
  have hl : ys.length = rs.length := by have := congrArg List.length h.hy; simpa using this
  have hm : Mod (fun _ => False) w (w.alloc (.cells #[.slice (some ⟨gp, 0, none⟩) rs.length cp] 24)) := (Mod.refl _ w).alloc _
  have hfs : (ys.map yV).map Prod.fst = rs := by rw [← h.hy, List.map_map]; rfl
  refine ⟨⟨?_, ?_, fun z hz => ?_⟩, hfs⟩
  · rw [List.length_map, hl]; exact heap_alloc_new w _
  · obtain ⟨h1, h2⟩ := h.own
    rcases h2 with ⟨_, h0, _⟩ | ⟨g', cur, e, hg, hnc, _, hcs, htk⟩
    · omega
    · cases e
      refine ⟨cur, hm.at hg id, ?_, ?_⟩
      · rw [List.length_map, hl, hcs]
        exact Nat.mul_le_mul_right _ (by omega)
      · rw [List.length_map, hl]
        have h3 := congrArg (List.take (rs.length * 3)) htk
        rw [List.take_take, Nat.min_eq_left (by omega), rmsC_append, List.take_left' (by simp [hl])] at h3
        exact h3
  · obtain ⟨y, hy, rfl⟩ := List.mem_map.1 hz
    have hlt : ∀ b, y.lo ≤ b ∧ b < y.hi → b ≠ gp := fun b hb e => by
      have := (h.far y hy).2
      omega
    have hg : RmG w (fun b => b ≠ gp) _ _ y.r := RmG.ofOwn (h.each y hy) hlt
    exact hg.step hm (fun _ _ _ => id) (fun b hb g => ⟨by omega, g⟩)
/-- what the mixing keeps -/
structure MixOk (rs ms : List Rm) : Prop where
  may : ∀ m ∈ ms, mayRm m = 0
  len : ms.length ≤ 1024
  same : SameN rs ms
theorem MixOk.mem {rs : List Rm} {zs : List Rv} (h : MixOk rs (zs.map Prod.fst)) {k : Nat} (hk : k < zs.length) : mayRm zs[k].1 = 0 := h.may _ (List.mem_map.2 ⟨_, List.getElem_mem hk, rfl⟩)
theorem MixOk.swap {rs : List Rm} {zs : List Rv} (h : MixOk rs (zs.map Prod.fst)) {k j : Nat} (hk : k < zs.length) (hj : j < zs.length) : MixOk rs (((zs.set k zs[j]).set j zs[k]).map Prod.fst) := by
  have e : ((zs.set k zs[j]).set j zs[k]).map Prod.fst = ((zs.map Prod.fst).set k ((zs.map Prod.fst)[j]'(by simpa using hj))).set j ((zs.map Prod.fst)[k]'(by simpa using hk)) := by
    rw [List.map_set, List.map_set, List.getElem_map, List.getElem_map]
  rw [e]
  refine ⟨fun m hm => ?_, by simpa using h.len, h.same.trans (same_swap (by simpa using hk) (by simpa using hj))⟩
  rcases List.mem_or_eq_of_mem_set hm with hm | rfl
  · rcases List.mem_or_eq_of_mem_set hm with hm | rfl
    · exact h.may m hm
    · exact h.may _ (List.getElem_mem _)
  · exact h.may _ (List.getElem_mem _)
theorem MixOk.more {rs : List Rm} {zs : List Rv} (h : MixOk rs (zs.map Prod.fst)) {k : Nat} (hk : k < zs.length) (h9 : zs.length < 900) (s b : Value) : MixOk rs ((zs ++ [(zs[k].1, s, b)]).map Prod.fst) := by
  have e : (zs ++ [(zs[k].1, s, b)]).map Prod.fst = zs.map Prod.fst ++ [(zs.map Prod.fst)[k]'(by simpa using hk)] := by
    rw [List.map_append, List.getElem_map]; rfl
  rw [e]
  refine ⟨fun m hm => ?_, by simp; omega, h.same.trans (same_more (by simpa using hk))⟩
  rcases List.mem_append.1 hm with hm | hm
  · exact h.may m hm
  · rw [List.mem_singleton] at hm; subst hm
    exact h.may _ (List.getElem_mem _)
theorem MixOk.setR {rs : List Rm} {zs : List Rv} (h : MixOk rs (zs.map Prod.fst)) {j : Nat} (hj : j < zs.length) (h8 : mayRm (rnRm nameB zs[j].1) = 0) (s b : Value) : MixOk rs ((zs.set j (rnRm nameB zs[j].1, s, b)).map Prod.fst) := by
  rw [List.map_set]
  refine ⟨fun m hm => ?_, by simpa using h.len, h.same.trans (same_set (by simpa using hj) ?_)⟩
  · rcases List.mem_or_eq_of_mem_set hm with hm | rfl
    · exact h.may m hm
    · exact h8
  · rw [List.getElem_map]
    exact (renamed_law (h.mem hj)).2
theorem src_one {x : World} {g : Nat} {p : ByteArray} {ka la : Option Addr} {kn kc ln lc : Nat} (hb : x.heap[g]? = some (.cells #[.string p, .slice ka kn kc, .slice la ln lc] 38 (0, 0))) :
    Src Tryd.prog 3 22 (.slice (some ⟨g, 0, none⟩) 1 1) 1 [.string p, .slice ka kn kc, .slice la ln lc] x := by
  refine Src.ofRd tiR.ht 1 1 (fun i u hu => ⟨g, 0, rfl, ?_⟩) rfl (fun u hu => ?_)
  · rw [Nat.zero_add, cell_of_row x g i _ 38 (0, 0) hb]
    simpa using hu
  · simp only [List.mem_cons, List.not_mem_nil, or_false] at hu
    rcases hu with rfl | rfl | rfl <;> rfl
theorem Mix.src {w : World} {M gm mc : Nat} {zs : List Rv} (h : Mix w M gm mc zs) : Src Tryd.prog 3 22 (.slice (some ⟨gm, 0, none⟩) zs.length mc) zs.length (rmsC zs) w := by
  refine Src.ofRd tiR.ht zs.length mc h.rd (by rw [rmsC_length]) (fun u hu => ?_)
  simp only [rmsC, List.mem_flatMap, rmC] at hu
  obtain ⟨x, hx, hu⟩ := hu
  obtain ⟨⟨a, c, e, _⟩, a2, c2, _, e2, _⟩ := h.each x hx
  rw [e, e2] at hu
  simp at hu
  rcases hu with rfl | rfl | rfl <;> rfl
theorem outP_may {e : Int} {l : List UInt8} (h : (outP e l).2 = 0) : e = 0 := by
  unfold outP at h
  by_cases he : e = 0
  · exact he
  · rw [if_pos he] at h; exact h
theorem tmod3 (i : Nat) : (i : Int).tmod 3 = 0 ∨ (i : Int).tmod 3 = 1 ∨ (i : Int).tmod 3 = 2 := by
  have e : (i : Int).tmod 3 = ((i % 3 : Nat) : Int) := (Int.ofNat_tmod i 3).symm
  rw [e]; omega
end Go.Proofs.YtphgglnkdfndiaaDoor
