/-
  The program's runs laid: walked.
-/
import Derived.Test.YtelfakglaghfoaaGreatColS
namespace Go.Proofs.YtelfakglaghfoaaGreat
open Go Go.RowKit Go.Mine
set_option linter.unusedVariables false
set_option maxHeartbeats 8000000
set_option maxRecDepth 100000
attribute [local go_sem] Oper.semAt_some
@[local go_sem, local simp] theorem wide_fnU (f : FuncId) : Fence.wide.fn f = True := rfl
@[local go_sem, local simp] theorem wide_depthU : Fence.wide.depth = none := rfl

theorem WrS.turned {w0 W W' : World} {p : Nat} {l : List UInt8} {row : Option Nat} (h : WrS w0 W p l) (hg : W.grownBy W' row) (hr : ∀ r, row = some r → w0.heap.size ≤ r ∧ ∃ o : Obj, W.heap[r]? = some o ∧ o.isCells = false) : WrS w0 W' p l := by
  obtain ⟨a, ⟨h1, c, h2, h3⟩, h4, h5, h6⟩ := h
  have hr2 := fun r e => (hr r e).2
  exact ⟨a, ⟨h1, c, (Mod.ofGrown hg).at h2 (cells_ne hr2 h2), Mine.Own.turned h3 hg hr2⟩, h4, h5, Mod.turned h6 hg (fun r e => (hr r e).1)⟩
/-- what a round of laying runs finds -/
structure LyI (w0 : World) (p B V N : Nat) (vb : Value) (l : List UInt8) (pre : List (Nat × Nat)) (W : World) : Prop where
  wr : WrS w0 W p (l ++ layRp (pre.map nx))
  bx : Boxed W B 139 (.pointer (some ⟨p, 0, none⟩))
  vx : Boxed W V 68 vb
  sz : N ≤ W.heap.size
theorem lyI_own (w0 : World) (p B V N : Nat) (vb : Value) (l : List UInt8) (C : Nat) (hC : w0.heap.size ≤ C) : OwnFrom C (LyI w0 p B V N vb l) := by
  rintro pre W W' row ⟨h1, h2, h3, h4⟩ hg hr
  have hr2 := fun r e => (hr r e).2
  exact ⟨h1.turned hg (fun r e => ⟨Nat.le_trans hC (hr r e).1, hr2 r e⟩), bx_turned h2 hg hr2, bx_turned h3 hg hr2, Nat.le_trans h4 hg.size⟩
theorem lay3_any {w0 w : World} {p : Nat} {l : List UInt8} (h : WrS w0 w p l) (a : Option Addr) (d : Nat) (c : List Nat) (hr : Rd w0 a (u32s c)) (hu : U32 c) (hn : c.length ≤ 65536) (hl : l.length < 100) (hab : ∀ b, blk a = some b → b < w0.heap.size) :
    Calls Tryz.prog 97 #[.pointer (some ⟨p, 0, none⟩), .slice a c.length d] w fun e w' => e = .returned (.tuple #[]) ∧ WrS w0 w' p (l ++ layR c) := by
  refine (callsIn_wide (n := 3)).1 ?_
  refine callsIn_of_wp_marks Tryz.func97 rfl trivial ?_ rfl
  simp only [Tryz.ntmps97, List.size_toArray, List.length_cons, List.length_nil, Nat.reduceAdd, Nat.reduceSub, Array.replicate_succ, Array.replicate_zero, List.push_toArray, List.append_toArray, List.nil_append, List.cons_append]
  have H := Lib.hid h; have HR := Lib.hid hr; have HU := Lib.hid hu; have HAB := Lib.hid hab
  have HW0 := Lib.hid h.md.size
  clear h hr hu hab
  gi_wp2_with fail
  have m1 : Mod (fun _ => False) w (w.alloc (.cells #[.pointer (some ⟨p, 0, none⟩)] 139)) := (Mod.refl _ w).alloc _
  have b1 : Boxed (w.alloc (.cells #[.pointer (some ⟨p, 0, none⟩)] 139)) w.heap.size 139 (.pointer (some ⟨p, 0, none⟩)) := Boxed.new _ _ _
  have z1 : (w.alloc (.cells #[.pointer (some ⟨p, 0, none⟩)] 139)).heap.size = w.heap.size + 1 := by simp
  obtain ⟨w1, hw1⟩ : ∃ v, v = w.alloc (.cells #[.pointer (some ⟨p, 0, none⟩)] 139) := ⟨_, rfl⟩
  rw [← hw1] at m1 b1 z1 ⊢
  clear hw1
  refine (callsIn_wide.2 (runs_any a c.length d w1)).mono ?_
  rintro e w2 ⟨rfl, hw2⟩
  have m2 : Mod (fun _ => False) w1 w2 := by rw [hw2]; exact (Mod.refl _ w1).alloc _
  have hV : w2.heap[w1.heap.size]? = some (.cells #[.slice a c.length d] 68 (0, 0)) := by rw [hw2]; exact heap_alloc_new w1 _
  have z2 : w2.heap.size = w1.heap.size + 1 := by rw [hw2]; simp
  have HB := Lib.hid (bx_mod b1 m2 id); have HWS := Lib.hid (H.out.mod0 (m1.trans m2)); have HZ1 := Lib.hid z1; have HZ2 := Lib.hid z2
  clear hw2 m1 b1 m2 z1 z2 H
  have hVB : Boxed w2 w1.heap.size 68 (.slice a c.length d) := hV
  have hSeq := runs_stops 2 w1.heap.size w0.heap.size c a d w2 hn HU.out hV (by have := HZ1.out; have := HZ2.out; have := HW0.out; omega) (HR.out.mod HWS.out.md (fun _ _ => id)) HAB.out
  have hKb := KpV.putObj (w := w2) (hi := w0.heap.size) (V := w1.heap.size) (by have := HZ1.out; have := HZ2.out; have := HW0.out; omega) (by have := HZ2.out; omega)
  have HRL : Hid (layR c = layRp (rns c)) := Lib.hid rfl
  have HRN := Lib.hid (rns_len _ c (Nat.le_refl _))
  have HRB := Lib.hid (rns_lt _ c (Nat.le_refl _) HU.out (by omega))
  have HVB := Lib.hid hVB
  generalize w1.heap.size = V at *
  clear hV hVB
  gi_wp2_with fail
  refine wpIn_rangeFunc_ownG rfl (by omega) (gf := 116) (lb := #[.pointer (some ⟨V, 0, none⟩)]) rfl trivial (enters_of Tryz.func116 (by kernel_rfl) rfl)
    hSeq (fun h k => KpV.trans h k) hKb (Below.refl _ _) (fun _ => rfl) (LyI w0 p w.heap.size V w2.heap.size (.slice a c.length d) l) (fun _ _ _ => False) (lyI_own w0 p w.heap.size V w2.heap.size _ l w2.heap.size (by have := HZ1.out; have := HZ2.out; have := HW0.out; omega)) (fun c => by rintro pre W W' row h; exact h.elim) ⟨by simpa [layRp] using HWS.out, HB.out, HVB.out, Nat.le_refl _⟩
    (fun x => { tmps := #[.pointer (some ⟨p, 0, none⟩), .slice a c.length d, .pointer (some ⟨w.heap.size, 0, none⟩), undef, .int .u32 (x.1 % 4294967296 : Nat), .int .i64 (x.2 % 8589934592 : Nat), .slice a c.length d, .func (.func 116) #[] #[.pointer (some ⟨V, 0, none⟩)], .int .u32 (x.1 % 4294967296 : Nat), .int .i64 (x.2 % 8589934592 : Nat), undef, undef, undef, undef, undef, undef, undef], defers := [] })
    ?assign ?body ?done ?stop
  case assign =>
    rintro l1 x W K hK
    simp only [encQ]
    gi_wp2
    exact hK
  case body =>
    rintro l1 pre x W ⟨h1, h2, h3, h4⟩ hlt
    have HX : Hid (layRp ((pre ++ [x]).map nx) = layRp (pre.map nx) ++ (lebl (x.1 % 4294967296) ++ lebl (x.2 % 8589934592))) := Lib.hid (by rw [List.map_append]; exact layRp_snoc _ _)
    have hx1 : x.1 % 4294967296 < 4294967296 := Nat.mod_lt _ (by omega)
    have hx2 : x.2 % 8589934592 < 8589934592 := Nat.mod_lt _ (by omega)
    have hll : (layRp (pre.map nx)).length ≤ 20 * 65536 := by
      have g1 := layRp_len (pre.map nx) (nx_ok pre)
      have g2 := HRN.out
      rw [List.length_map] at g1
      omega
    generalize layRp (pre.map nx) = lp at *
    generalize x.1 % 4294967296 = y1 at *
    generalize x.2 % 8589934592 = y2 at *
    obtain ⟨wa, hWA, hp0, ha0, hmm⟩ := h1
    have hlt1 : p < W.heap.size := (Array.getElem?_eq_some_iff.1 hWA.2.choose_spec.1).1
    have hlta : ∀ b, blk wa = some b → b < W.heap.size := hWA.2.choose_spec.2.lt
    have m1 : Mod (fun _ => False) W (W.alloc (.cells (u64s [y1, y2]).toArray 63)) := (Mod.refl _ W).alloc _
    have HN := Lib.hid (num_any p wa (l ++ lp) [y1, y2] (some ⟨W.heap.size, 0, none⟩) 2 _ (hWA.mod m1 id (fun _ _ => id)) (Rd.news W (u64s [y1, y2]) 63) (fun e => by simp [blk] at e; omega) (fun b hb hh => by simp [blk] at hb; have := hlta b hh; omega) (fun n hn => by simp at hn; omega) (by simp only [List.length_append, List.length_cons, List.length_nil]; omega))
    have d2 := h2.cell
    have HWA := Lib.hid hWA; have HA0 := Lib.hid ha0; have HMM := Lib.hid hmm; have H2 := Lib.hid h2; have H3 := Lib.hid h3; have H4 := Lib.hid h4; have HP0 := Lib.hid hp0; have HM1 := Lib.hid m1
    clear hWA ha0 hmm h2 h3 h4 hp0 hlt1 hlta m1 hSeq hKb
    gi_wp2_with fail
    refine CallsIn.mono (CallsIn.inRound l1 (callsIn_wide.2 HN.out)) ?_
    rintro e w3 ⟨rfl, a', g1, g2⟩
    have G1 := Lib.hid g1; have G2 := Lib.hid (WrGo.pre0 HM1.out g2)
    clear g1 g2 HN
    gi_wp2_with fail
    have hM := G2.out.mod
    obtain ⟨hne, c1, hpp, hOO⟩ := HWA.out
    have hBp : w.heap.size ≠ p := fun e => by
      have h := H2.out
      unfold Boxed at h
      rw [e, hpp] at h
      cases h
    have hVp : V ≠ p := fun e => by
      have h := H3.out
      unfold Boxed at h
      rw [e, hpp] at h
      simp at h
    have hBa : blk wa ≠ some w.heap.size := fun e => by
      obtain ⟨cur, hc⟩ := Mine.Own.blk_cells hOO _ e
      have h := H2.out
      unfold Boxed at h
      rw [hc] at h
      cases h
    have hVa : blk wa ≠ some V := fun e => by
      obtain ⟨cur, hc⟩ := Mine.Own.blk_cells hOO _ e
      have h := H3.out
      unfold Boxed at h
      rw [hc] at h
      cases h
    have q1 := HZ1.out; have q2 := HZ2.out; have q4 := H4.out; have q0 := HW0.out; have qp := HP0.out
    refine ⟨keepsFrom_mod hM ?_, KpV.of_mod hM (by omega) (by omega) ?_, ⟨?_, ?_, ?_, Nat.le_trans q4 hM.size⟩⟩
    · rintro k (rfl | h) o ho
      · rw [hpp] at ho; cases ho; rfl
      · obtain ⟨cur, hc⟩ := Mine.Own.blk_cells hOO k h
        rw [hc] at ho; cases ho; rfl
    · rintro k hk (e | e)
      · rcases hk with hk | hk
        · omega
        · exact hVp (hk.symm.trans e)
      · have := HA0.out k e
        rcases hk with hk | hk
        · omega
        · subst hk; exact hVa e
    · rw [HX.out]
      have h9 := WrS.go HP0.out HA0.out HMM.out G1.out G2.out
      simpa [List.append_assoc] using h9
    · exact bx_mod H2.out hM (fun e => e.elim hBp hBa)
    · exact bx_mod H3.out hM (fun e => e.elim hVp hVa)
  case done =>
    rintro D ys W hD he ⟨h1, h2, h3, h4⟩ hK
    have he2 : ys = rns c := he
    subst he2
    have HLL : Hid (layRp ((rns c).map nx) = layR c) := Lib.hid (by rw [nx_rns HRB.out, HRL.out])
    rw [HLL.out] at h1
    have H1 := Lib.hid h1
    have HK := Lib.hid hK; have HD := Lib.hid hD
    clear h1 h2 h3 h4 hK hKb hSeq hD
    gi_wp2
    refine ⟨by simp, .inl ⟨_, _, rfl, run_takeDeferred HK.out, ?_⟩⟩
    have q1 := HZ1.out; have q2 := HZ2.out; have q0 := HW0.out; have qD := HD.out
    refine ⟨.tuple #[], by simp [results, Tryz.f97, go_sem], rfl, H1.out.turned (grownBy_putObj' W D (.deferred none)) (fun r e => ?_)⟩
    cases e
    exact ⟨by omega, _, HK.out, rfl⟩
  case stop =>
    rintro D cc pre W hD hpre h
    exact h.elim
end Go.Proofs.YtelfakglaghfoaaGreat
