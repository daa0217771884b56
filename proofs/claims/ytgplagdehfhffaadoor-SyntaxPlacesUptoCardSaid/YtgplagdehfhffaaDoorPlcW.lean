/- SyntaxPlaces answers true of any bytes of bulk at most 1048576, where the tables of utf8 lie. -/
import Derived.Test.YtgplagdehfhffaaDoorAwake
import Derived.Test.YtgplagdehfhffaaDoorPlcL
import Derived.Test.YtgplagdehfhffaaDoorScan
namespace Go.Proofs.YtgplagdehfhffaaDoor
open Go Go.RowKit Go.Mine
set_option maxHeartbeats 4000000
set_option maxRecDepth 1000000
set_option linter.unusedVariables false

theorem plc_early (a : Option Addr) (c : Nat) (l : List UInt8) (a2 : Option Addr) (c2 : Nat) (l2 : List UInt8) (w : World) (no at_ : Nat) (ps : List Rm)
    (hP : ∀ (a0 : Option Addr) (c0 : Nat) (w : World), Rd w a0 (bts l) → Lib.Utf8Tabs 1 2 w → Calls Tryd.prog 12 #[.slice a0 l.length c0] w fun e w' => ∃ s, e = .returned (.tuple #[.agg #[s], .int .i64 at_, .int .i64 no]) ∧ RsAt w' s ps ∧ Mod (fun _ => False) w w')
    (hr : Rd w a (bts l)) (hT : Lib.Utf8Tabs 1 2 w) (h : (no = 0 ∧ at_ = 0 ∨ no = 3 ∧ at_ = 0 ∨ no = 60 ∨ no = 61) ∨ (no = 80 ∧ at_ = l.length)) :
    Calls Tryd.prog 8 #[.slice a l.length c, .slice a2 l2.length c2] w fun e w' => e = .returned (.bool true) ∧ Mod (fun _ => False) w w' := by
  have HR := Lib.hid hr
  have HT := Lib.hid hT
  have HN := Lib.hid law8Num_any
  have HP1 := Lib.hid hP
  clear hr hT hP
  rcases h with (⟨rfl, rfl⟩ | ⟨rfl, rfl⟩ | rfl | rfl) | ⟨rfl, rfl⟩
  · skip
    go_enter Tryd.func8, Tryd.ntmps8
    go_wp2_with fail
    refine (awake_true w HT.out).mono ?_
    rintro e w1 ⟨rfl, hM1⟩
    have HM1 := Lib.hid hM1; clear hM1
    go_wp2_with fail
    refine (HP1.out a c w1 (HR.out.mod HM1.out (fun _ _ => id)) (tabs_mod HT.out HM1.out)).mono ?_
    rintro e w2 ⟨s1, rfl, hs1, hM2⟩
    obtain ⟨a3, c3, _, rfl, _⟩ := hs1
    have HM2 := Lib.hid ((HM1.out.trans hM2).alloc (.cells #[.slice a3 ps.length c3] 26))
    clear hM2 HP1
    go_wp2_with (first
      | (go_at_call 14; refine (HN.out _ _).mono ?_; rintro e w' ⟨rfl, rfl⟩))
    go_ret
    exact ⟨rfl, HM2.out⟩
  · skip
    go_enter Tryd.func8, Tryd.ntmps8
    go_wp2_with fail
    refine (awake_true w HT.out).mono ?_
    rintro e w1 ⟨rfl, hM1⟩
    have HM1 := Lib.hid hM1; clear hM1
    go_wp2_with fail
    refine (HP1.out a c w1 (HR.out.mod HM1.out (fun _ _ => id)) (tabs_mod HT.out HM1.out)).mono ?_
    rintro e w2 ⟨s1, rfl, hs1, hM2⟩
    obtain ⟨a3, c3, _, rfl, _⟩ := hs1
    have HM2 := Lib.hid ((HM1.out.trans hM2).alloc (.cells #[.slice a3 ps.length c3] 26))
    clear hM2 HP1
    go_wp2_with (first
      | (go_at_call 14; refine (HN.out _ _).mono ?_; rintro e w' ⟨rfl, rfl⟩))
    go_ret
    exact ⟨rfl, HM2.out⟩
  · skip
    go_enter Tryd.func8, Tryd.ntmps8
    go_wp2_with fail
    refine (awake_true w HT.out).mono ?_
    rintro e w1 ⟨rfl, hM1⟩
    have HM1 := Lib.hid hM1; clear hM1
    go_wp2_with fail
    refine (HP1.out a c w1 (HR.out.mod HM1.out (fun _ _ => id)) (tabs_mod HT.out HM1.out)).mono ?_
    rintro e w2 ⟨s1, rfl, hs1, hM2⟩
    obtain ⟨a3, c3, _, rfl, _⟩ := hs1
    have HM2 := Lib.hid ((HM1.out.trans hM2).alloc (.cells #[.slice a3 ps.length c3] 26))
    clear hM2 HP1
    go_wp2_with (first
      | (go_at_call 14; refine (HN.out _ _).mono ?_; rintro e w' ⟨rfl, rfl⟩))
    go_ret
    exact ⟨rfl, HM2.out⟩
  · skip
    go_enter Tryd.func8, Tryd.ntmps8
    go_wp2_with fail
    refine (awake_true w HT.out).mono ?_
    rintro e w1 ⟨rfl, hM1⟩
    have HM1 := Lib.hid hM1; clear hM1
    go_wp2_with fail
    refine (HP1.out a c w1 (HR.out.mod HM1.out (fun _ _ => id)) (tabs_mod HT.out HM1.out)).mono ?_
    rintro e w2 ⟨s1, rfl, hs1, hM2⟩
    obtain ⟨a3, c3, _, rfl, _⟩ := hs1
    have HM2 := Lib.hid ((HM1.out.trans hM2).alloc (.cells #[.slice a3 ps.length c3] 26))
    clear hM2 HP1
    go_wp2_with (first
      | (go_at_call 14; refine (HN.out _ _).mono ?_; rintro e w' ⟨rfl, rfl⟩))
    go_ret
    exact ⟨rfl, HM2.out⟩
  · skip
    go_enter Tryd.func8, Tryd.ntmps8
    go_wp2_with fail
    refine (awake_true w HT.out).mono ?_
    rintro e w1 ⟨rfl, hM1⟩
    have HM1 := Lib.hid hM1; clear hM1
    go_wp2_with fail
    refine (HP1.out a c w1 (HR.out.mod HM1.out (fun _ _ => id)) (tabs_mod HT.out HM1.out)).mono ?_
    rintro e w2 ⟨s1, rfl, hs1, hM2⟩
    obtain ⟨a3, c3, _, rfl, _⟩ := hs1
    have HM2 := Lib.hid ((HM1.out.trans hM2).alloc (.cells #[.slice a3 ps.length c3] 26))
    clear hM2 HP1
    go_wp2_with (first
      | (go_at_call 14; refine (HN.out _ _).mono ?_; rintro e w' ⟨rfl, rfl⟩))
    go_ret
    exact ⟨rfl, HM2.out⟩
theorem name_frameP {c : Code} {F : Fence} {n : Nat} {P : Program} {Q : Exit → Act → World → Prop} {T : Array Value} {ds : List Deferred} {w : World} (h : ∀ T', T' = T → c.wpIn F n P Q { tmps := T', defers := ds } w) : c.wpIn F n P Q { tmps := T, defers := ds } w := h T rfl
@[local go_sem, local simp] theorem wide_fn9 (f : FuncId) : Fence.wide.fn f = True := rfl
@[local go_sem, local simp] theorem wide_depth9 : Fence.wide.depth = none := rfl
@[local go_sem, local simp] theorem in_fn9 (l : Nat) (f : FuncId) : (Fence.wide.inRound l).fn f = True := rfl
@[local go_sem, local simp] theorem in_depth9 (l : Nat) : (Fence.wide.inRound l).depth = none := rfl
attribute [local go_sem] Oper.semAt_some
/-- the tokens that come without an error -/
def okT (pre : List (Tok × Nat)) : List Tok := (pre.filter fun x => decide (x.2 = 0)).map Prod.fst
theorem okT_snoc0 (pre : List (Tok × Nat)) (t : Tok) : okT (pre ++ [(t, 0)]) = okT pre ++ [t] := by simp [okT]
theorem okT_snoc1 (pre : List (Tok × Nat)) (t : Tok) {e : Nat} (he : e ≠ 0) : okT (pre ++ [(t, e)]) = okT pre := by simp [okT, he]
theorem okT_seq (r : List Tok × Nat × Nat) : okT (seqOf r) = r.1 := by
  unfold okT seqOf
  rw [List.filter_append, List.map_append]
  have h1 : ∀ l : List Tok, ((l.map fun t => (t, 0)).filter fun x => decide (x.2 = 0)).map Prod.fst = l := fun l => by
    induction l with
    | nil => rfl
    | cons t l ih => simp at ih ⊢; exact ih
  have h2 : ((if r.2.2 = 0 then [] else [((⟨0, ⟨#[]⟩, r.2.1⟩ : Tok), r.2.2)]).filter fun x => decide (x.2 = 0)).map Prod.fst = [] := by
    split
    · rfl
    · rename_i h; simp [h]
  rw [h2, List.append_nil]
  exact h1 r.1
theorem okT_len (pre : List (Tok × Nat)) : (okT pre).length ≤ pre.length := by
  unfold okT; rw [List.length_map]; exact List.length_filter_le _ _
/-- what a round finds -/
def PcI (w : World) (g8 : Nat) (pre : List (Tok × Nat)) (W : World) : Prop :=
  (∃ a c, Boxed W g8 74 (.slice a (okT pre).length c) ∧ Mine.Own W 79 3 a (okT pre).length c (toksC (okT pre)) ∧ (∀ b, blk a = some b → g8 + 2 ≤ b)) ∧ Mod (fun _ => False) w W ∧ g8 + 2 ≤ W.heap.size
theorem pcI_own {w : World} {g8 : Nat} (B : Nat) (hB : w.heap.size ≤ B) : OwnFrom B (PcI w g8) := by
  rintro pre W W' row ⟨⟨a, c, h1, h2, h3⟩, h7, h8⟩ hg hr
  have hr2 := fun r e => (hr r e).2
  exact ⟨⟨a, c, bx_turned h1 hg hr2, Mine.Own.turned h2 hg hr2, h3⟩, Mod.turned h7 hg (fun r e => Nat.le_trans hB (hr r e).1), Nat.le_trans h8 hg.size⟩
theorem each_nP (l : List UInt8) (n : Nat) (hn : l.length = n) (a : Option Addr) (c : Nat) (w : World) (hR : Rd w a (bts l)) :
    Calls Tryd.prog 39 #[.slice a n c] w fun e w' => e = .returned (.func (.func 75) #[] #[.pointer (some ⟨w.heap.size, 0, none⟩)]) ∧ w' = w.alloc (.cells #[.string ⟨l.toArray⟩] 9) := by
  subst hn; exact each_any a c l w hR
theorem own_cellP {w : World} {e : TypeId} {a : Option Addr} {c : Nat} {ts : List Tok} (h : Mine.Own w e 3 a ts.length c (toksC ts)) {k : Nat} (hk : k < ts.length) :
    ∃ b, a = some ⟨b, 0, none⟩ ∧ w.cell? ⟨b, k * 3 + 2, none⟩ = some (.int .i64 ts[k].at_) := by
  obtain ⟨b, rfl⟩ := h.atHead (by omega)
  have hg : ∀ (ts : List Tok) (k : Nat) (t : Tok), ts[k]? = some t → (toksC ts)[k * 3 + 2]? = some (.int .i64 t.at_) := by
    intro ts
    induction ts with
    | nil => intro k t h; simp at h
    | cons x ts ih =>
      intro k t h
      have e : toksC (x :: ts) = tokC x ++ toksC ts := rfl
      have hl : (tokC x).length = 3 := rfl
      cases k with
      | zero => simp at h; subst h; rw [e]; rfl
      | succ k =>
        rw [e, List.getElem?_append_right (by rw [hl]; omega), hl, show (k + 1) * 3 + 2 - 3 = k * 3 + 2 by omega]
        exact ih k t (by simpa using h)
  obtain ⟨b1, o1, e1, q1⟩ := h.rd _ _ (hg ts k _ (List.getElem?_eq_getElem hk))
  cases e1
  rw [Nat.zero_add] at q1
  exact ⟨_, rfl, q1⟩
theorem plc_main (a : Option Addr) (c : Nat) (l : List UInt8) (a2 : Option Addr) (c2 : Nat) (l2 : List UInt8) (w : World) (no at_ : Nat) (ps : List Rm) (ts : List Tok) (p er j : Nat)
    (hP : ∀ (a0 : Option Addr) (c0 : Nat) (w : World), Rd w a0 (bts l) → Lib.Utf8Tabs 1 2 w → Calls Tryd.prog 12 #[.slice a0 l.length c0] w fun e w' => ∃ s, e = .returned (.tuple #[.agg #[s], .int .i64 at_, .int .i64 no]) ∧ RsAt w' s ps ∧ Mod (fun _ => False) w w')
    (hr : Rd w a (bts l)) (hr2 : Rd w a2 (bts l2)) (hT : Lib.Utf8Tabs 1 2 w) (hno : 80 ≤ no) (hat : at_ < l.length) (hf : foundL ⟨l.toArray⟩ = (ts, p, er)) (hj : j < ts.length) (hlt : ∀ (i : Nat) (hi : i < ts.length), ts[i].at_ < l.length)
    (hJ : ∀ (i : Nat) (hi : i < ts.length), ts[i].at_ = at_ ↔ i = j)
    (hL : ∀ (h : j + 1 < ts.length) (o : List UInt8), (scanL ⟨o.toArray⟩).2.2 = 0 → ts[j + 1].at_ + 1 + o.length ≤ 65536 → noOf (progS ⟨(l.take ts[j + 1].at_ ++ 10 :: o).toArray⟩) = no ∧ atOf (progS ⟨(l.take ts[j + 1].at_ ++ 10 :: o).toArray⟩) = at_)
    (hlc : l.length ≤ c) (hn : l.length ≤ 65536) (hn2 : l2.length ≤ 1048576) :
    Calls Tryd.prog 8 #[.slice a l.length c, .slice a2 l2.length c2] w fun e w' => e = .returned (.bool true) ∧ Mod (fun _ => False) w w' := by
  have HR := Lib.hid hr
  have HR2 := Lib.hid hr2
  have HT := Lib.hid hT
  have HN := Lib.hid law8Num_any
  have HP1 := Lib.hid hP
  have HJ := Lib.hid hJ; have HL := Lib.hid hL; have HLT := Lib.hid hlt; have HF := Lib.hid hf
  have hb1 : decide ((no : Int) < 80) = false := by simp; omega
  have hb2 : ((at_ : Int) == (l.length : Int)) = false := by simp; omega
  have HNN := Lib.hid (And.intro hlc (And.intro hn hn2))
  have H2w := Lib.hid (tabs_lt hT)
  have HTL : Hid (ts.length ≤ l.length + 1) := by
    have := foundL_len ⟨l.toArray⟩
    rw [hf] at this
    exact this
  clear hr hr2 hT hP hJ hL hlt hf hlc hn hn2 hno hat
  refine (callsIn_wide (n := 3)).1 ?_
  refine callsIn_of_wp_marks Tryd.func8 rfl trivial ?_ rfl
  simp only [Tryd.ntmps8, List.size_toArray, List.length_cons, List.length_nil, Nat.reduceAdd, Nat.reduceSub, Array.replicate_succ, Array.replicate_zero, List.push_toArray, List.append_toArray, List.nil_append, List.cons_append]
  refine (wpIn_wide (n := 3)).2 ?_
  go_wp2_with fail
  refine (awake_true w HT.out).mono ?_
  rintro e w1 ⟨rfl, hM1⟩
  have HM1 := Lib.hid hM1; clear hM1
  go_wp2_with fail
  refine (HP1.out a c w1 (HR.out.mod HM1.out (fun _ _ => id)) (tabs_mod HT.out HM1.out)).mono ?_
  rintro e w2 ⟨s1, rfl, hs1, hM2⟩
  obtain ⟨a3, c3, _, rfl, _⟩ := hs1
  have HM2 := Lib.hid ((HM1.out.trans hM2).alloc (.cells #[.slice a3 ps.length c3] 26))
  clear hM2 HP1 HM1
  go_wp2_with (first
    | (go_at_call 14; refine (HN.out _ _).mono ?_; rintro e w' ⟨rfl, rfl⟩))
  obtain ⟨u2, hu2⟩ : ∃ u, u = w2.alloc (.cells #[.slice a3 ps.length c3] 26) := ⟨_, rfl⟩
  have hz2 : u2.heap.size = w2.heap.size + 1 := by rw [hu2]; simp
  rw [← hu2] at HM2 ⊢
  rw [← hz2]
  obtain ⟨g8, hg8⟩ : ∃ g, g = u2.heap.size := ⟨_, rfl⟩
  obtain ⟨u3, hu3⟩ : ∃ u, u = u2.alloc (.cells #[.slice none 0 0] 74) := ⟨_, rfl⟩
  have b8 : Boxed u3 g8 74 (.slice none 0 0) := by rw [hu3, hg8]; exact Boxed.new u2 _ _
  have hm3 : Mod (fun _ => False) w u3 := by rw [hu3]; exact HM2.out.alloc _
  have hz3 : u3.heap.size = g8 + 1 := by rw [hu3, hg8]; simp
  rw [← hu3, ← hg8]
  have hw8 : w.heap.size ≤ g8 := by rw [hg8]; exact HM2.out.size
  clear hu2 hz2 hu3 hg8
  refine (each_nP l _ rfl a c u3 (HR.out.mod hm3 (fun _ _ => id))).mono ?_
  rintro e w4 ⟨rfl, hw4⟩
  have hB : w4.heap[g8 + 1]? = some (.cells #[.string ⟨l.toArray⟩] 9 (0, 0)) := by rw [hw4, ← hz3]; exact heap_alloc_new u3 _
  have hm4 : Mod (fun _ => False) w w4 := by rw [hw4]; exact hm3.alloc _
  have hz4 : w4.heap.size = g8 + 2 := by rw [hw4]; simp [hz3]
  have hI0 : PcI w g8 [] w4 := ⟨⟨none, 0, by rw [hw4]; exact b8.alloc _, Mine.Own.nil _ _ _, by simp⟩, hm4, by omega⟩
  rw [hz3]
  have HI0 := Lib.hid hI0
  have HT4 := Lib.hid (tabs_mod HT.out hm4)
  have HB := Lib.hid hB
  have HG : Hid (w.heap.size ≤ g8 ∧ w4.heap.size = g8 + 2) := ⟨hw8, hz4⟩
  have HM4 := Lib.hid hm4
  clear hw4 hI0 hB hm4 hm3 hz3 b8 hz4 hw8 HM2
  go_wp2_with fail
  refine (wpIn_wide (n := 3)).1 ?_
  have hKb := KpL.putObj (w := w4) (B := g8 + 1) (by have := HG.out; omega) (tabs_lt HT4.out)
  have hSeq := each_stops 2 (g8 + 1) ⟨l.toArray⟩ w4 HB.out HT4.out (tabs_lt HT4.out) (show l.length < 2 ^ 30 by have := HNN.out; omega)
  refine name_frameP (fun T hT => ?_)
  refine wpIn_rangeFunc_ownH rfl (by omega) (gf := 75) (lb := #[.pointer (some ⟨g8 + 1, 0, none⟩)]) (by rw [hT]; rfl) trivial (enters_of Tryd.func75 (by kernel_rfl) rfl)
    hSeq (fun h k => KpL.trans h k) hKb (Below.refl _ _) (fun _ => rfl) (PcI w g8) (fun _ _ _ => False) (pcI_own _ (by have := HG.out; omega)) (fun c => fun _ _ _ _ h => h.elim) HI0.out
    (fun x a' W => ∃ Bx, g8 + 2 ≤ Bx ∧ W.heap[Bx]? = some (.cells (tokC x.1).toArray 79 (0, 0)) ∧ a' = { tmps := (((T.setIfInBounds 66 (encT x.1)).setIfInBounds 67 (.int .i64 x.2)).setIfInBounds 9 (.pointer (some ⟨Bx, 0, none⟩))).setIfInBounds 10 (.int .i64 x.2), defers := [] })
    (fun x a' _ X Y row hs hg hr => by obtain ⟨Bx, h1, h2, h3⟩ := hs; exact ⟨Bx, h1, (Mod.ofGrown hg).at h2 (fun hs => cells_ne (fun r e => (hr r e).2) h2 hs), h3⟩)
    ?assign ?body ?done ?stop
  case assign =>
    rintro l0 pre x W K hi hK
    obtain ⟨⟨xk, xt, xa⟩, xe⟩ := x
    have HW : Hid (g8 + 2 ≤ W.heap.size) := hi.2.2
    have HK := Lib.hid hK
    have HI := Lib.hid hi
    clear hi hK hKb hSeq
    subst hT
    simp only [encI, encT]
    gi_wp2
    have h2w := H2w.out
    have hG := HG.out
    have hW := HW.out
    refine HK.out _ _ ((KeepsOthers.alloc _ _).from _) (KpL.of_mod ((Mod.refl (fun _ => False) W).alloc _) (by omega) (by omega) id id id (fun _ _ _ h => h.elim))
      ((pcI_own w.heap.size (Nat.le_refl _)).alloc _ HI.out) ⟨W.heap.size, hW, heap_alloc_new W _, ?_⟩
    simp only [encT, List.setIfInBounds_toArray, List.set_cons_succ, List.set_cons_zero]
  case body =>
    rintro l0 pre x a' W hl1 ⟨rc, hrc⟩ hi ⟨Bx, hBx, hbx, rfl⟩ hlt
    obtain ⟨⟨a5, c5, h4, h5, h6⟩, h7, h8⟩ := hi
    obtain ⟨⟨xk, xt, xa⟩, xe⟩ := x
    have d0 : W.cell? ⟨Bx, 0, none⟩ = some (.int .i64 xk) := cell_at hbx rfl
    have d1 : W.cell? ⟨Bx, 1, none⟩ = some (.string xt) := cell_at hbx rfl
    have d2 : W.cell? ⟨Bx, 2, none⟩ = some (.int .i64 xa) := cell_at hbx rfl
    have d5 := h4.cell
    have f5 := h4.frozen
    have hfew : pre.length ≤ l.length + 3 := by
      have h1 := seqOf_len (foundL ⟨l.toArray⟩)
      have h2 := foundL_len ⟨l.toArray⟩
      have h3 : (⟨l.toArray⟩ : ByteArray).size = l.length := rfl
      have h4 := hlt
      omega
    have hfew2 := okT_len pre
    have HFW : Hid ((okT pre).length ≤ 70000) := Lib.hid (by have := HNN.out.2.1; omega)
    have H4 := Lib.hid h4; have H5 := Lib.hid h5; have H6 := Lib.hid h6; have H7 := Lib.hid h7
    have HRC := Lib.hid hrc
    clear h4 h5 h6 h7 hrc hKb hSeq hbx hfew hfew2 hlt
    subst hT
    simp only [encT, List.setIfInBounds_toArray, List.set_cons_succ, List.set_cons_zero]
    by_cases hxe : xe = 0
    · subst hxe
      have HN5 : Hid (blk a5 ≠ some g8) := fun h => by have := H6.out _ h; omega
      gi_wp2_with fail
      refine CallsIn.mono (CallsIn.inRound l0 (callsIn_wide.2 (HN.out _ _))) ?_
      rintro e w' ⟨rfl, rfl⟩
      gi_wp2_with (gi_at_builtin; refine wpLI_appendN (fun _ => trivial) (us := [_, _, _]) rfl (.tmp 71) (.tmp 73) 74 rfl ti38 rfl H5.out rfl rfl rfl (by have := HFW.out; omega) (by have := HFW.out; unfold maxLen; omega) ?_; intro a6 c6 w6 hO6 hG6 _
                   have hb6 : Boxed w6 _ _ _ := hG6.mod.at H4.out HN5.out
                   have d6 := hb6.cell
                   have f6 := hb6.frozen
                   have HB6 := Lib.hid hb6; have HO6 := Lib.hid hO6; have HG6 := Lib.hid hG6
                   clear hb6 hO6 hG6 d5)
      have hM : Mod (fun k => k = g8 ∨ blk a5 = some k) W (w6.setCell ⟨g8, 0, none⟩ (.slice a6 ((okT pre).length + 1) c6)) := (HG6.out.mod.mono (fun _ _ h => .inr h)).setCell (fun _ => .inl rfl) _
      have hlow : ∀ k, k < g8 → ¬ (k = g8 ∨ blk a5 = some k) := by
        rintro k hk (rfl | h)
        · omega
        · have := H6.out k h; omega
      have h2w := H2w.out
      have hG := HG.out
      refine ⟨keepsFrom_mod hM ?_, KpL.of_mod hM (by omega) (by omega) ?_ (hlow _ (by omega)) (hlow _ (by omega)) ?_, ⟨a6, c6, ?_, ?_, ?_⟩, H7.out.step hM (fun i hi hs => hlow i (by omega) hs), Nat.le_trans h8 hM.size⟩
      · rintro k (rfl | h) o ho
        · have := H4.out; unfold Boxed at this; rw [this] at ho; cases ho; rfl
        · obtain ⟨cur, hc⟩ := Mine.Own.blk_cells H5.out k h
          rw [hc] at ho; cases ho; rfl
      · rintro (h | h)
        · omega
        · have := H6.out _ h; omega
      · rintro k cs fz (rfl | h) he
        · have := H4.out; unfold Boxed at this; rw [this] at he; cases he
        · obtain ⟨cur, hc⟩ := Mine.Own.blk_cells H5.out k h
          rw [hc] at he; cases he
      · rw [okT_snoc0, List.length_append]; exact bx_put HB6.out _
      · rw [okT_snoc0, List.length_append, toksC_append]
        exact HO6.out.mod ((Mod.refl (fun b => b = g8) w6).setCell (fun _ => rfl) _) (fun b hb e => by
          subst e
          rcases HG6.out.pos with e | ⟨g, e, hg⟩
          · rw [e] at hb; exact HN5.out hb
          · rw [e] at hb; cases hb; omega)
      · intro b hb
        rcases HG6.out.pos with e | ⟨g, e, hg⟩
        · rw [e] at hb; exact H6.out b hb
        · rw [e] at hb; cases hb; omega
    · have hxb : ((xe : Int) == 0) = false := by simp; omega
      gi_wp2_with fail
      refine CallsIn.mono (CallsIn.inRound l0 (callsIn_wide.2 (HN.out _ _))) ?_
      rintro e w' ⟨rfl, rfl⟩
      gi_wp2
      have h2w := H2w.out
      have hG := HG.out
      refine ⟨keepsFrom_mod (Mod.refl (fun _ => False) W) (fun k h => h.elim), KpL.of_mod (Mod.refl (fun _ => False) W) (by omega) (by omega) id id id (fun _ _ _ h => h.elim), ⟨a5, c5, ?_, ?_, H6.out⟩, H7.out, h8⟩
      · rw [okT_snoc1 _ _ hxe]; exact H4.out
      · rw [okT_snoc1 _ _ hxe]; exact H5.out
  case done =>
    rintro D xs W hD rfl hi hK
    obtain ⟨⟨a5, c5, h4, h5, h6⟩, h7, h8⟩ := hi
    rw [okT_seq, HF.out] at h4 h5
    have H4 := Lib.hid h4; have H5 := Lib.hid h5; have H7 := Lib.hid h7
    have HK := Lib.hid hK
    have HD := Lib.hid hD
    have HKD : Hid (∀ W', Mod (fun _ => False) W W' → W'.heap[D]? = some (.deferred none) → True) := fun _ _ _ => trivial
    clear h4 h5 h6 h7 hK hKb hSeq hD HKD
    have d5 := H4.out.cell
    subst hT
    go_wp2_with fail
    obtain ⟨en, hen⟩ : ∃ en, ∀ h : j + 1 < ts.length, en = ts[j + 1].at_ := by
      by_cases h : j + 1 < ts.length
      · exact ⟨ts[j + 1].at_, fun _ => rfl⟩
      · exact ⟨0, fun h' => absurd h' h⟩
    have HEN := Lib.hid hen
    clear hen
    have htl : ts.length ≤ 65537 := by have := HTL.out; have := HNN.out.2.1; omega
    go_loopw [11, 12] (fun ev iv wr => ∃ k : Nat, iv = .int .i64 k ∧ k ≤ ts.length ∧ ((k ≤ j ∧ ev = .int .i64 (-1)) ∨ (j < k ∧ j + 1 < ts.length ∧ ev = .int .i64 en)) ∧ Hid (W = wr)) (fun _ iv _ => ts.length - (intOf iv).toNat)
    case atStart => exact ⟨0, rfl, Nat.zero_le _, .inl ⟨Nat.zero_le _, rfl⟩, Lib.hid rfl⟩
    case round =>
      obtain ⟨k, rfl, hk, hev, hw⟩ := hrel
      obtain rfl := hw.out
      clear hw
      by_cases hlt : k < ts.length
      · obtain ⟨b1, rfl, y2⟩ := own_cellP H5.out hlt
        by_cases hkj : k = j
        · subst hkj
          rw [(HJ.out k hlt).2 rfl] at y2
          obtain ⟨_, rfl⟩ : k ≤ k ∧ _ := by
            rcases hev with h | ⟨h, _⟩
            · exact h
            · omega
          clear hev
          by_cases hl : k + 1 < ts.length
          · obtain ⟨b2, hb2, y3⟩ := own_cellP H5.out hl
            cases hb2
            rw [← HEN.out hl] at y3
            have hb3 : (((k : Int) + 1) == (ts.length : Int)) = false := by simp; omega
            go_wp2_with fail
            go_roundw
            case rel => exact ⟨k + 1, by go_num, hlt, .inr ⟨Nat.lt_succ_self _, hl, rfl⟩, Lib.hid trivial⟩
            case measure => simp [intOf]; omega
          · have hke : k + 1 = ts.length := by omega
            have hb3 : (((k : Int) + 1) == (ts.length : Int)) = true := by simp; omega
            have hb4 : decide (((k : Int) + 1) < (ts.length : Int)) = false := by simp; omega
            clear hl hke
            go_wp2_with fail
            have hK' := ((Mod.refl (fun _ => False) W)).at HK.out id
            have hG := Mod.ofGrown (grownBy_putObj' W D (.deferred none))
            have hMw := (H7.out.trans (Mod.refl (fun _ => False) W)).step hG (fun i hi e => by have h1 := HD.out; have h2 := HG.out; cases e; omega)
            refine ⟨by simp, .inl ⟨_, _, rfl, run_takeDeferred hK', ?_⟩⟩
            refine ⟨.bool true, ?_, rfl, hMw⟩
            simp [results, Tryd.f8, go_sem]
        · have hb5 : ((ts[k].at_ : Int) == (at_ : Int)) = false := by
            have : ts[k].at_ ≠ at_ := fun h => hkj ((HJ.out k hlt).1 h)
            simp; omega
          generalize ts[k].at_ = ta at *
          have hkn : (k ≤ j ∧ k + 1 ≤ j) ∨ j < k := by omega
          rcases hev with ⟨h1, rfl⟩ | ⟨h1, h2, rfl⟩
          · go_wp2_with fail
            go_roundw
            case rel => exact ⟨k + 1, by go_num, hlt, .inl ⟨by omega, rfl⟩, Lib.hid trivial⟩
            case measure => simp [intOf]; omega
          · go_wp2_with fail
            go_roundw
            case rel => exact ⟨k + 1, by go_num, hlt, .inr ⟨by omega, h2, rfl⟩, Lib.hid trivial⟩
            case measure => simp [intOf]; omega
      · obtain rfl : k = ts.length := by omega
        obtain ⟨hjk, hjl, rfl⟩ : j < ts.length ∧ j + 1 < ts.length ∧ _ := by
          rcases hev with ⟨h, _⟩ | h
          · omega
          · exact h
        have hel : en < l.length := by rw [HEN.out hjl]; exact HLT.out _ _
        have hec : en ≤ c := by have := HNN.out.1; omega
        obtain ⟨b0, o0, rfl⟩ : ∃ b0 o0, a = some ⟨b0, o0, none⟩ := by
          obtain ⟨b, o, e, _⟩ := HR.out 0 (.int .u8 (l[0]'(by omega)).toNat) (by simp only [bts, List.getElem?_map]; rw [List.getElem?_eq_getElem (show 0 < l.length by omega)]; rfl)
          exact ⟨b, o, e⟩
        have HRT : Hid (Rd W (some ⟨b0, o0, none⟩) (bts (l.take en))) := by
          have h := (HR.out.mod H7.out (fun _ _ => id)).take en
          have e : (bts l).take en = bts (l.take en) := by simp [bts, List.map_take]
          rw [e] at h
          exact h
        have hel2 : (l.take en).length = en := by rw [List.length_take]; omega
        have HEL := Lib.hid (And.intro hel hel2)
        have HSC := Lib.hid (fun w h1 h2 => scan_any a2 c2 l2 w h1 h2 (by have := HNN.out.2.2; omega))
        have HR2W : Hid (Rd W a2 (bts l2)) := Lib.hid (HR2.out.mod H7.out (fun _ _ => id))
        have HTW := Lib.hid (tabs_mod HT.out H7.out)
        clear hev hel hel2 hjk hlt hk
        go_wp2_with (first
          | (at_builtin; refine wpL_append0 rfl (.tmp 108) (.tmp 111) 22 22 rfl ti24 rfl rfl (Src.ofRd ti24.ht en c HRT.out (by simp [HEL.out.2]) (bts_one _)) (by have := HEL.out; have := HNN.out; omega) (by have := HEL.out; have := HNN.out; unfold maxLen; omega) ?_; intro a6 c6 w6 hO6 hM6 hf6 _
             have HO6 := Lib.hid hO6; have HM6 := Lib.hid hM6; have HF6 := Lib.hid hf6; clear hO6 hM6 hf6)
          | (at_builtin; refine wpL_appendN (us := [_]) rfl (.tmp 113) (.tmp 114) 22 rfl ti24 rfl HO6.out rfl rfl rfl (by have := HEL.out; have := HNN.out; omega) (by have := HEL.out; have := HNN.out; unfold maxLen; omega) ?_; intro a7 c7 w7 hO7 hG7 _
             have HO7 := Lib.hid hO7
             have HM7 := Lib.hid (HM6.out.step hG7.mod (fun i hi hs => by have := HF6.out i hs; omega))
             have HF7 : Hid (∀ b, blk a7 = some b → W.heap.size ≤ b) := Lib.hid (fun b hb => by
               rcases hG7.pos with e | ⟨g, e, hg⟩
               · rw [e] at hb; exact HF6.out b hb
               · rw [e] at hb; cases hb; exact Nat.le_trans HM6.out.size hg)
             clear hO7 hG7 HO6 HM6 HF6))
        refine (HSC.out w7 (HR2W.out.mod HM7.out (fun _ _ => id)) (tabs_mod HTW.out HM7.out)).mono ?_
        rintro e w8 ⟨a8, c8, rfl, _, hM8, _⟩
        have HO8 := Lib.hid (HO7.out.mod hM8 (fun _ _ => id))
        have HM8 := Lib.hid (HM7.out.trans hM8)
        clear hM8 HSC HM7 HO7
        have HLL : Hid ((scanR (foundL ⟨l2.toArray⟩)).2.2 = 0 → (scanL ⟨l2.toArray⟩).2.2 = 0) := Lib.hid (fun h => by
          by_cases hz : 65536 < (⟨l2.toArray⟩ : ByteArray).size
          · rw [show foundL ⟨l2.toArray⟩ = ([], 0, 3) from if_pos hz] at h
            exact absurd h (by decide)
          · rw [show foundL ⟨l2.toArray⟩ = scanL ⟨l2.toArray⟩ from if_neg hz] at h
            unfold scanR at h
            split at h
            · assumption
            · rename_i hc; exact absurd h hc)
        generalize (scanR (foundL ⟨l2.toArray⟩)).1.length = sl at *
        generalize (scanR (foundL ⟨l2.toArray⟩)).2.1 = sp at *
        generalize (scanR (foundL ⟨l2.toArray⟩)).2.2 = se at *
        by_cases hse : se = 0
        · subst hse
          have hs0 := HLL.out rfl
          have hbe : en ≤ 65536 := by have := HEL.out.1; have := HNN.out.2.1; omega
          have hbl : l2.length ≤ 1048576 := HNN.out.2.2
          by_cases hz : 65536 < en + 1 + l2.length
          · have hb3 : decide (65536 < (en : Int) + 1 + (l2.length : Int)) = true := by simp; omega
            clear hz
            go_wp2_with (first
              | (go_at_call 14; refine (HN.out _ _).mono ?_; rintro e w' ⟨rfl, rfl⟩))
            have hK' := (HM8.out).at HK.out id
            have hG := Mod.ofGrown (grownBy_putObj' w8 D (.deferred none))
            have hMw := (H7.out.trans HM8.out).step hG (fun i hi e => by have h1 := HD.out; have h2 := HG.out; cases e; omega)
            refine ⟨by simp, .inl ⟨_, _, rfl, run_takeDeferred hK', ?_⟩⟩
            refine ⟨.bool true, ?_, rfl, hMw⟩
            simp [results, Tryd.f8, go_sem]
          · have hb3 : decide (65536 < (en : Int) + 1 + (l2.length : Int)) = false := by simp; omega
            have hlaw := HL.out hjl l2 hs0 (by rw [← HEN.out hjl]; omega)
            rw [← HEN.out hjl] at hlaw
            have HPT := Lib.hid (parse_says (l.take en ++ 10 :: l2) (en + 1 + l2.length) (by rw [List.length_append, List.length_cons, HEL.out.2]; omega) (by omega))
            unfold PSay at HPT
            rw [hlaw.1, hlaw.2] at HPT
            generalize valOf [] (progS ⟨(l.take en ++ 10 :: l2).toArray⟩) = tv at *
            have HZ := Lib.hid hz
            clear hz hlaw hs0
            go_wp2_with (first
              | (go_at_call 14; refine (HN.out _ _).mono ?_; rintro e w' ⟨rfl, rfl⟩)
              | (at_builtin; refine wpL_append rfl (.tmp 133) (.tmp 134) 22 22 rfl ti24 rfl HO8.out rfl (Src.ofRd ti24.ht l2.length c2 (HR2W.out.mod HM8.out (fun _ _ => id)) (by simp) (bts_one l2)) (by have := HZ.out; omega) (by have := HZ.out; unfold maxLen; omega) ?_; intro a9 c9 w9 hO9 hG9 _
                 have HO9 := Lib.hid hO9
                 have HM9 := Lib.hid (HM8.out.step hG9.mod (fun i hi hs => by have := HF7.out i hs; omega))
                 clear hO9 hG9))
            have hrd : Rd w9 a9 (bts (l.take en ++ 10 :: l2)) := by
              have h1 := HO9.out.rd
              have e : bts (l.take en ++ 10 :: l2) = bts (l.take en) ++ [.int .u8 10] ++ bts l2 := by simp [bts]
              rw [e]; exact h1
            refine (HPT.out a9 c9 w9 hrd (tabs_mod HTW.out HM9.out)).mono ?_
            rintro e w10 ⟨s3, rfl, hs3, hM10⟩
            obtain ⟨aa, cc, _, rfl, _⟩ := hs3
            have HM10 := Lib.hid ((HM9.out.trans hM10).alloc (.cells #[.slice aa tv.length cc] 26))
            clear hM10 hrd HPT
            go_wp2_with fail
            have hK' := (HM10.out).at HK.out id
            have hG := Mod.ofGrown (grownBy_putObj' (w10.alloc (.cells #[.slice aa tv.length cc] 26)) D (.deferred none))
            have hMw := (H7.out.trans HM10.out).step hG (fun i hi e => by have h1 := HD.out; have h2 := HG.out; cases e; omega)
            refine ⟨by simp, .inl ⟨_, _, rfl, run_takeDeferred hK', ?_⟩⟩
            refine ⟨.bool true, ?_, rfl, hMw⟩
            simp [results, Tryd.f8, go_sem]
        · have hb3 : ((se : Int) != 0) = true := by simp; omega
          clear hse
          go_wp2_with (first
            | (go_at_call 14; refine (HN.out _ _).mono ?_; rintro e w' ⟨rfl, rfl⟩))
          have hK' := (HM8.out).at HK.out id
          have hG := Mod.ofGrown (grownBy_putObj' w8 D (.deferred none))
          have hMw := (H7.out.trans HM8.out).step hG (fun i hi e => by have h1 := HD.out; have h2 := HG.out; cases e; omega)
          refine ⟨by simp, .inl ⟨_, _, rfl, run_takeDeferred hK', ?_⟩⟩
          refine ⟨.bool true, ?_, rfl, hMw⟩
          simp [results, Tryd.f8, go_sem]
  case stop =>
    rintro D cc pre W hD hpre hX hK
    exact hX.elim
end Go.Proofs.YtgplagdehfhffaaDoor
