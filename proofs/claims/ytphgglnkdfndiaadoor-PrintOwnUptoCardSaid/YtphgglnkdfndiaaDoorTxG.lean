/-
  print.text: what a function writes, or the error where it panics; Program, Rule, Atom.
-/
import Derived.Test.YtphgglnkdfndiaaDoorWrG
import Derived.Test.YtphgglnkdfndiaaDoorMayG
import Derived.Defers
import Derived.Recover
import Derived.Laws.Pointers
namespace Go.Proofs.YtphgglnkdfndiaaDoor
open Go Go.RowKit Go.Mine
set_option linter.unusedVariables false
set_option maxHeartbeats 4000000
set_option maxRecDepth 100000

theorem catch_idle (p q : Addr) (w : World) :
    CallsD Tryd.prog 51 #[.pointer (some p), .pointer (some q)] .returning w fun e u' w' => e = .returned (.tuple #[]) ∧ u' = .returning ∧ w' = w := by
  refine callsD_of_wpS Tryd.func51 rfl fun c₀ cs hu => ?_
  apply wpS_seq
  apply wpS_region
  simp [wpOpsS, go_sem, recoverD, hu, Tryd.ntmps51, Exit.thenS]
  refine wpS_of_wp ?_
  simp only [Array.replicate_succ, Array.replicate_zero, List.push_toArray, List.append_toArray, List.nil_append, List.cons_append, List.setIfInBounds_toArray, List.set_cons_succ, List.set_cons_zero]
  go_wp2
  cases c₀
  simp_all [bodyPostS, results, Tryd.results51]
theorem catch_long (p q : Nat) (x y : Value) (tp tq : TypeId) (w : World) (hp : w.heap[p]? = some (.cells #[x] tp (0, 0))) (hq : w.heap[q]? = some (.cells #[y] tq (0, 0))) (hne : p ≠ q) :
    CallsD Tryd.prog 51 #[.pointer (some ⟨p, 0, none⟩), .pointer (some ⟨q, 0, none⟩)] (.panicking longE) w fun e u' w' => e = .returned (.tuple #[]) ∧ u' = .panicking [{ v := .iface 96 (.agg #[]), recovered := true }] ∧
      Mod (fun b => b = p ∨ b = q) w w' ∧ w'.heap[p]? = some (.cells #[.string ⟨#[]⟩] tp (0, 0)) ∧ w'.heap[q]? = some (.cells #[.int .i64 3] tq (0, 0)) := by
  have hta : ∀ w, (Instr.typeAssert (.iface 96 (.agg #[])) 20 96 true).run Tryd.prog w = .ok (.tuple #[.agg #[], .bool true]) w := fun _ => by kernel_rfl
  have m := (Mod.refl (fun _ => False) w).alloc (.cells #[] 96)
  have g1 := m.at hp id
  have g2 := m.at hq id
  have c1 := cell_at (j := 0) g1 rfl
  have c2 := cell_at (j := 0) g2 rfl
  have f1 : ((w.alloc (.cells #[] 96)).frozen? ⟨p, 0, none⟩) = false := frozen_at g1
  have f2 : ((w.alloc (.cells #[] 96)).frozen? ⟨q, 0, none⟩) = false := frozen_at g2
  have hne2 : q ≠ p := fun e => hne e.symm
  have G1 := Lib.hid g1; have G2 := Lib.hid g2; have M := Lib.hid m
  clear g1 g2 m hp hq
  unfold longE
  refine callsD_of_wpS Tryd.func51 rfl fun c₀ cs hu => ?_
  apply wpS_seq
  apply wpS_region
  simp [wpOpsS, go_sem, recoverD, hu, Tryd.ntmps51, Exit.thenS]
  refine wpS_of_wp ?_
  simp only [Array.replicate_succ, Array.replicate_zero, List.push_toArray, List.append_toArray, List.nil_append, List.cons_append, List.setIfInBounds_toArray, List.set_cons_succ, List.set_cons_zero]
  go_wp2
  clear c1 c2 f1 f2 hta
  have hM := ((M.out.mono (T := fun b => b = p ∨ b = q) (fun _ _ h => h.elim)).setCell (p := ⟨p, 0, none⟩) (fun _ => .inl rfl) (.string ⟨#[]⟩)).setCell (p := ⟨q, 0, none⟩) (fun _ => .inr rfl) (.int .i64 3)
  have h1 : (((w.alloc (.cells #[] 96)).setCell ⟨p, 0, none⟩ (.string ⟨#[]⟩)).setCell ⟨q, 0, none⟩ (.int .i64 3)).heap[p]? = some (.cells #[.string ⟨#[]⟩] tp (0, 0)) := by
    have a1 := heap_setCell_at (j := 0) (.string ⟨#[]⟩) G1.out
    exact ((Mod.refl (fun b => b = q) _).setCell (p := ⟨q, 0, none⟩) (fun _ => rfl) _).at a1 (fun e => hne e)
  have h2 : (((w.alloc (.cells #[] 96)).setCell ⟨p, 0, none⟩ (.string ⟨#[]⟩)).setCell ⟨q, 0, none⟩ (.int .i64 3)).heap[q]? = some (.cells #[.int .i64 3] tq (0, 0)) := by
    have a1 := ((Mod.refl (fun b => b = p) _).setCell (p := ⟨p, 0, none⟩) (fun _ => rfl) (.string ⟨#[]⟩)).at G2.out (fun e => hne2 e)
    exact heap_setCell_at (j := 0) _ a1
  generalize ((w.alloc (.cells #[] 96)).setCell ⟨p, 0, none⟩ (.string ⟨#[]⟩)).setCell ⟨q, 0, none⟩ (.int .i64 3) = W at *
  simp [bodyPostS, results, Tryd.results51]
  exact ⟨hM, h1, h2⟩
theorem text_any (F : FuncId) (cap : Value) (out : List UInt8) (w : World) (hcf : ∀ (args : Array Value) (w : World), (callFunc F args).run Tryd.prog w = .ok (.enter F args) w)
    (HF : ∀ (w0 w1 : World) (p : Nat), Mod (fun _ => False) w w0 → Wr w0 w1 p none [] → Calls Tryd.prog F #[.pointer (some ⟨p, 0, none⟩), cap] w1 (WrPost w0 w1 p none out)) :
    Calls Tryd.prog 28 #[.func (.func F) #[] #[cap]] w fun e w' => e = .returned (.tuple #[.string ⟨(fitT out).1.toArray⟩, .int .i64 (fitT out).2]) ∧ Mod (fun _ => False) w w' := by
  have hmf : ∀ (fn : Fn) (first cap : Array Value) (w : World), (Instr.makeFunc fn first cap).run Tryd.prog w = .ok (.func fn first cap) w := fun _ _ _ _ => rfl
  obtain ⟨s, er, hfe⟩ : ∃ s er, fitT out = (s, er) := ⟨_, _, rfl⟩
  rw [hfe]
  have HFE := Lib.hid hfe; clear hfe
  have m2 : Mod (fun _ => False) w ((w.alloc (.cells #[.string ⟨#[]⟩] 9)).alloc (.cells #[.int .i64 0] 27)) := ((Mod.refl _ w).alloc _).alloc _
  have hb : BwAt (((w.alloc (.cells #[.string ⟨#[]⟩] 9)).alloc (.cells #[.int .i64 0] 27)).alloc (.cells #[.pointer none, .slice none 0 0] 103)) (w.heap.size + 1 + 1) none [] := by
    have := BwAt.fresh ((w.alloc (.cells #[.string ⟨#[]⟩] 9)).alloc (.cells #[.int .i64 0] 27))
    simpa using this
  have g2 : ((w.alloc (.cells #[.string ⟨#[]⟩] 9)).alloc (.cells #[.int .i64 0] 27)).heap[w.heap.size]? = some (.cells #[.string ⟨#[]⟩] 9 (0, 0)) :=
    ((Mod.refl (fun _ => False) (w.alloc (.cells #[.string ⟨#[]⟩] 9))).alloc _).at (heap_alloc_new w _) id
  have g3 : ((w.alloc (.cells #[.string ⟨#[]⟩] 9)).alloc (.cells #[.int .i64 0] 27)).heap[w.heap.size + 1]? = some (.cells #[.int .i64 0] 27 (0, 0)) := by
    have := heap_alloc_new (w.alloc (.cells #[.string ⟨#[]⟩] 9)) (.cells #[.int .i64 0] 27)
    simpa using this
  have hsz : ((w.alloc (.cells #[.string ⟨#[]⟩] 9)).alloc (.cells #[.int .i64 0] 27)).heap.size = w.heap.size + 2 := by simp
  have HC := Lib.hid (HF _ _ (w.heap.size + 1 + 1) m2 ⟨hb, (Mod.refl _ _).alloc _, by omega, by intro b h; simp at h, by simp, fun _ => rfl⟩)
  have HH := Lib.hid (And.intro g2 (And.intro g3 (And.intro hsz m2)))
  clear m2 hb g2 g3 hsz HF
  go_enter_defers Tryd.func28, Tryd.ntmps28
  go_wp2_with fail
  refine HC.out.mono ?_
  obtain ⟨w0, hw0⟩ : ∃ w0, w0 = ((w.alloc (.cells #[.string ⟨#[]⟩] 9)).alloc (.cells #[.int .i64 0] 27)) := ⟨_, rfl⟩
  obtain ⟨g2, g3, hsz, m2⟩ := HH.out
  rw [← hw0] at g2 g3 hsz m2 ⊢
  clear HH HC hw0
  rintro e w2 (⟨rfl, a', hW, _⟩ | ⟨hov, rfl, hM⟩)
  · have ha' : ∀ b, blk a' = some b → w.heap.size + 2 ≤ b := fun b hb => by have := hW.ha b hb; omega
    have g2' := hW.mod.at g2 id
    have g3' := hW.mod.at g3 id
    have HS := Lib.hid (bStringW_any (w.heap.size + 1 + 1) a' out w2 hW.at_ (by have := hW.few; omega) hW.nil)
    have G2 := Lib.hid g2'; have G3 := Lib.hid g3'; have HA := Lib.hid ha'; have HW := Lib.hid hW; have M2 := Lib.hid m2
    clear g2 g3 g2' g3' ha' hW m2
    go_wp2_with fail
    refine HS.out.mono ?_
    rintro e w3 ⟨rfl, hM3⟩
    have k2 := hM3.at G2.out (by rintro (h | h); omega; have := HA.out _ h; omega)
    have k3 := hM3.at G3.out (by rintro (h | h); omega; have := HA.out _ h; omega)
    have c2 := cell_at (j := 0) k2 rfl
    have c3 := cell_at (j := 0) k3 rfl
    have f2 : w3.frozen? ⟨w.heap.size, 0, none⟩ = false := frozen_at k2
    have f3 : w3.frozen? ⟨w.heap.size + 1, 0, none⟩ = false := frozen_at k3
    have HM3 := Lib.hid hM3; have K2 := Lib.hid k2; have K3 := Lib.hid k3
    clear hM3 k2 k3
    go_wp2_with fail
    refine leaves_cons (f := 51) (args := #[.pointer (some ⟨w.heap.size, 0, none⟩), .pointer (some ⟨w.heap.size + 1, 0, none⟩)]) (by simp) (by simp [go_sem]) ?_
    refine (catch_idle _ _ _).mono ?_
    rintro e u' w'' ⟨rfl, rfl, rfl⟩
    have hm : Mod (fun _ => False) w ((w3.setCell ⟨w.heap.size, 0, none⟩ (.string ⟨out.toArray⟩)).setCell ⟨w.heap.size + 1, 0, none⟩ (.int .i64 0)) := by
      have h1 : Mod (fun _ => False) w w2 := M2.out.trans HW.out.mod
      have h2 : Mod (fun _ => False) w w3 := h1.step HM3.out (fun i hi hs => by rcases hs with h | h; omega; have := HA.out _ h; omega)
      exact (h2.setCell (p := ⟨w.heap.size, 0, none⟩) (fun h => by simp at h) _).setCell (p := ⟨w.heap.size + 1, 0, none⟩) (fun h => by simp at h; omega) _
    have hcc : fitT out = (out, 0) := by unfold fitT; rw [if_neg (by have := HW.out.few; omega)]
    have hee := HFE.out
    rw [hcc] at hee
    simp only [Prod.mk.injEq] at hee
    obtain ⟨rfl, rfl⟩ := hee
    have d2 : ((w3.setCell ⟨w.heap.size, 0, none⟩ (.string ⟨out.toArray⟩)).setCell ⟨w.heap.size + 1, 0, none⟩ (.int .i64 0)).cell? ⟨w.heap.size, 0, none⟩ = some (.string ⟨out.toArray⟩) := by
      have a1 := heap_setCell_at (j := 0) (.string ⟨out.toArray⟩) K2.out
      exact cell_at (((Mod.refl (fun b => b = w.heap.size + 1) _).setCell (p := ⟨w.heap.size + 1, 0, none⟩) (fun _ => rfl) _).at a1 (by omega)) rfl
    have d3 : ((w3.setCell ⟨w.heap.size, 0, none⟩ (.string ⟨out.toArray⟩)).setCell ⟨w.heap.size + 1, 0, none⟩ (.int .i64 0)).cell? ⟨w.heap.size + 1, 0, none⟩ = some (.int .i64 0) := by
      have a1 := ((Mod.refl (fun b => b = w.heap.size) w3).setCell (p := ⟨w.heap.size, 0, none⟩) (fun _ => rfl) (.string ⟨out.toArray⟩)).at K3.out (by omega)
      exact cell_at (heap_setCell_at (j := 0) _ a1) rfl
    obtain ⟨W, hWW⟩ : ∃ W, W = (w3.setCell ⟨w.heap.size, 0, none⟩ (.string ⟨out.toArray⟩)).setCell ⟨w.heap.size + 1, 0, none⟩ (.int .i64 0) := ⟨_, rfl⟩
    rw [← hWW] at hm d2 d3 ⊢
    clear hWW c2 c3
    simp [Leaves, settle, results, Tryd.results28, go_sem, d2, d3]
    exact hm
  · have HOV := Lib.hid hov; have HM := Lib.hid hM; have M2 := Lib.hid m2
    have G2 := Lib.hid (hM.at g2 id); have G3 := Lib.hid (hM.at g3 id)
    clear hov hM m2 g2 g3
    go_wp2_with fail
    refine leaves_cons (f := 51) (args := #[.pointer (some ⟨w.heap.size, 0, none⟩), .pointer (some ⟨w.heap.size + 1, 0, none⟩)]) (by simp) (by simp [go_sem]) ?_
    refine (catch_long _ _ _ _ _ _ _ G2.out G3.out (by omega)).mono ?_
    rintro e u' w'' ⟨rfl, rfl, hM3, k2, k3⟩
    have c2 := cell_at (j := 0) k2 rfl
    have c3 := cell_at (j := 0) k3 rfl
    have hcc : fitT out = ([], 3) := by unfold fitT; rw [if_pos HOV.out]
    have hee := HFE.out
    rw [hcc] at hee
    simp only [Prod.mk.injEq] at hee
    obtain ⟨rfl, rfl⟩ := hee
    have hm : Mod (fun _ => False) w w'' := (M2.out.trans HM.out).step hM3 (fun i hi hs => by rcases hs with h | h <;> omega)
    simp [Leaves, settle, results, Tryd.results28, go_sem, c2, c3]
    exact hm
theorem ruleC_any (r : Rm) (ok : OkRm r) (s b : Value) (w0 w1 w : World) (g p : Nat) (hb : w.heap[g]? = some (.cells #[.string r.head.pred, s, b] 38 (0, 0))) (ht : TsAt w s r.head.terms) (hl : LsAt w b r.body) (hm : Mod (fun _ => False) w w0) (h : Wr w0 w1 p none []) :
    Calls Tryd.prog 29 #[.pointer (some ⟨p, 0, none⟩), .pointer (some ⟨g, 0, none⟩)] w1 (WrPost w0 w1 p none (rmT r)) := by
  have hb1 := (hm.trans h.mod).at hb id
  have c0 : w1.cell? ⟨g, 0, none⟩ = some (.string r.head.pred) := cell_at hb1 rfl
  have c1 : w1.cell? ⟨g, 1, none⟩ = some s := cell_at hb1 rfl
  have c2 : w1.cell? ⟨g, 2, none⟩ = some b := cell_at hb1 rfl
  have HA := Lib.hid (wrule_any r ok s b w0 w1 p none [] (ht.mod0 hm) (hl.mod0 hm) h)
  rw [List.nil_append] at HA
  unfold rmV at HA
  obtain ⟨ad, c, rfl, _⟩ := ht
  obtain ⟨bd, bc, _, rfl, _⟩ := hl
  clear hb1 hb
  go_enter Tryd.func29, Tryd.ntmps29
  go_wp2_with fail
  refine HA.out.mono ?_
  rintro e w2 (⟨rfl, a2, hW2, hG2⟩ | ⟨hov, rfl, hM2⟩)
  · have HW2 := Lib.hid hW2; have HG2 := Lib.hid hG2; clear hW2 hG2
    go_wp2_with fail
    go_end0
    exact .inl ⟨rfl, a2, HW2.out, HG2.out⟩
  · have HOV := Lib.hid hov; have HM2 := Lib.hid hM2; clear hov hM2
    go_wp2_with fail
    exact ⟨rfl, .inr ⟨HOV.out, rfl, HM2.out⟩⟩
end Go.Proofs.YtphgglnkdfndiaaDoor
/-
  print.Program, Rule, Atom.
-/
namespace Go.Proofs.YtphgglnkdfndiaaDoor
open Go Go.RowKit Go.Mine
set_option linter.unusedVariables false
set_option maxHeartbeats 4000000
set_option maxRecDepth 100000

theorem pmT_take (rs : List Rm) {k : Nat} (hk : k < rs.length) : pmT (rs.take (k + 1)) = pmT (rs.take k) ++ rmT rs[k] ++ [10] := by
  rw [List.take_succ_eq_append_getElem hk]
  unfold pmT
  rw [List.flatMap_append, List.append_assoc]
  simp
theorem pmT_le (rs : List Rm) (k : Nat) : (pmT (rs.take k)).length ≤ (pmT rs).length := by
  have e : pmT rs = pmT (rs.take k) ++ pmT (rs.drop k) := by
    unfold pmT
    rw [← List.flatMap_append, List.take_append_drop]
  rw [e, List.length_append]
  omega
/-- what Program, Rule, Atom answer -/
def outP (e : Int) (l : List UInt8) : List UInt8 × Int := if e ≠ 0 then ([], e) else fitT l
def SayP (x : List UInt8 × Int) (w : World) (e : Ending) (w' : World) : Prop := e = .returned (.tuple #[.string ⟨x.1.toArray⟩, .int .i64 x.2]) ∧ Mod (fun _ => False) w w'
theorem Rule_any (r : Rm) (s b : Value) (w : World) (hs : SmallRm r) (ht : TsAt w s r.head.terms) (hl : LsAt w b r.body) :
    Calls Tryd.prog 13 #[rmV r s b] w (SayP (outP (mayRm r) (rmT r)) w) := by
  unfold rmV
  have hm0 : Mod (fun _ => False) w (w.alloc (.cells #[.string r.head.pred, s, b] 38)) := (Mod.refl _ w).alloc _
  have HA := Lib.hid (MayRule_any r s b _ hs (ht.mod0 hm0) (hl.mod0 hm0))
  unfold rmV at HA
  have hmf : ∀ (fn : Fn) (first cap : Array Value) (w : World), (Instr.makeFunc fn first cap).run Tryd.prog w = .ok (.func fn first cap) w := fun _ _ _ _ => rfl
  have HT := Lib.hid ht; have HL := Lib.hid hl
  have HN := Lib.hid (heap_alloc_new w (.cells #[.string r.head.pred, s, b] 38))
  have HM0 := Lib.hid hm0
  have HOK := Lib.hid (fun h => okRm (r := r) h)
  obtain ⟨ad, c, rfl, _⟩ := ht
  obtain ⟨bd, bc, _, rfl, _⟩ := hl
  clear hm0
  unfold SayP outP
  generalize mayRm r = x at *
  by_cases hx : x = 0
  · subst hx
    rw [if_neg (by simp)]
    have HTX := Lib.hid (fun (w1 : World) (m : Mod (fun _ => False) (w.alloc (.cells #[.string r.head.pred, .slice ad r.head.terms.length c, .slice bd r.body.length bc] 38)) w1) => text_any 29 (.pointer (some ⟨w.heap.size, 0, none⟩)) (rmT r) w1 (fun _ _ => by go_simp) (fun w0 w2 p h1 h2 => ruleC_any r (HOK.out rfl) _ _ w0 w2 w1 w.heap.size p (m.at HN.out id) (HT.out.mod0 (HM0.out.trans m)) (HL.out.mod0 (HM0.out.trans m)) h1 h2))
    go_enter Tryd.func13, Tryd.ntmps13
    go_wp2_with fail
    refine HA.out.mono ?_
    rintro e w1 ⟨rfl, hM1⟩
    have HTX2 := Lib.hid (HTX.out w1 hM1)
    have HM1 := Lib.hid hM1; clear hM1 HTX
    go_wp2_with fail
    refine HTX2.out.mono ?_
    rintro e w2 ⟨rfl, hM2⟩
    have HM2 := Lib.hid hM2; clear hM2 HTX2
    go_wp2_with fail
    go_ret2
    exact ⟨rfl, HM0.out.trans (HM1.out.trans HM2.out)⟩
  · rw [if_pos hx]
    have hxb : (x != 0) = true := by simpa using hx
    clear hx
    go_enter Tryd.func13, Tryd.ntmps13
    go_wp2_with fail
    refine HA.out.mono ?_
    rintro e w1 ⟨rfl, hM1⟩
    have HM1 := Lib.hid hM1; clear hM1
    go_wp2_with fail
    go_ret2
    exact ⟨rfl, HM0.out.trans HM1.out⟩
end Go.Proofs.YtphgglnkdfndiaaDoor
