/-
  print.text: what a function writes, or the error where it panics; Program, Rule, Atom.
-/
import Derived.Test.YteecbbnpgmceiaaGreatDoorWrG
import Derived.Test.YteecbbnpgmceiaaGreatDoorMayG
import Derived.Defers
import Derived.Recover
import Derived.Laws.Pointers
namespace Go.Proofs.YteecbbnpgmceiaaGreatDoor
open Go Go.RowKit Go.Mine
set_option linter.unusedVariables false
set_option maxHeartbeats 4000000
set_option maxRecDepth 100000

theorem catch_idle (p q : Addr) (w : World) :
    CallsD Tryz.prog 96 #[.pointer (some p), .pointer (some q)] .returning w fun e u' w' => e = .returned (.tuple #[]) ∧ u' = .returning ∧ w' = w := by
  refine callsD_of_wpS Tryz.func96 rfl fun c₀ cs hu => ?_
  apply wpS_seq
  apply wpS_region
  simp [wpOpsS, go_sem, recoverD, hu, Tryz.ntmps96, Exit.thenS]
  refine wpS_of_wp ?_
  simp only [Array.replicate_succ, Array.replicate_zero, List.push_toArray, List.append_toArray, List.nil_append, List.cons_append, List.setIfInBounds_toArray, List.set_cons_succ, List.set_cons_zero]
  go_wp2
  cases c₀
  simp_all [bodyPostS, results, Tryz.results96]
theorem catch_long (p q : Nat) (x y : Value) (tp tq : TypeId) (w : World) (hp : w.heap[p]? = some (.cells #[x] tp (0, 0))) (hq : w.heap[q]? = some (.cells #[y] tq (0, 0))) (hne : p ≠ q) :
    CallsD Tryz.prog 96 #[.pointer (some ⟨p, 0, none⟩), .pointer (some ⟨q, 0, none⟩)] (.panicking longE) w fun e u' w' => e = .returned (.tuple #[]) ∧ u' = .panicking [{ v := .iface 166 (.agg #[]), recovered := true }] ∧
      Mod (fun b => b = p ∨ b = q) w w' ∧ w'.heap[p]? = some (.cells #[.string ⟨#[]⟩] tp (0, 0)) ∧ w'.heap[q]? = some (.cells #[.int .i64 3] tq (0, 0)) := by
  have hta : ∀ w, (Instr.typeAssert (.iface 166 (.agg #[])) 20 166 true).run Tryz.prog w = .ok (.tuple #[.agg #[], .bool true]) w := fun _ => by kernel_rfl
  have m := (Mod.refl (fun _ => False) w).alloc (.cells #[] 166)
  have g1 := m.at hp id
  have g2 := m.at hq id
  have c1 := cell_at (j := 0) g1 rfl
  have c2 := cell_at (j := 0) g2 rfl
  have f1 : ((w.alloc (.cells #[] 166)).frozen? ⟨p, 0, none⟩) = false := frozen_at g1
  have f2 : ((w.alloc (.cells #[] 166)).frozen? ⟨q, 0, none⟩) = false := frozen_at g2
  have hne2 : q ≠ p := fun e => hne e.symm
  have G1 := Lib.hid g1; have G2 := Lib.hid g2; have M := Lib.hid m
  clear g1 g2 m hp hq
  unfold longE
  refine callsD_of_wpS Tryz.func96 rfl fun c₀ cs hu => ?_
  apply wpS_seq
  apply wpS_region
  simp [wpOpsS, go_sem, recoverD, hu, Tryz.ntmps96, Exit.thenS]
  refine wpS_of_wp ?_
  simp only [Array.replicate_succ, Array.replicate_zero, List.push_toArray, List.append_toArray, List.nil_append, List.cons_append, List.setIfInBounds_toArray, List.set_cons_succ, List.set_cons_zero]
  go_wp2
  clear c1 c2 f1 f2 hta
  have hM := ((M.out.mono (T := fun b => b = p ∨ b = q) (fun _ _ h => h.elim)).setCell (p := ⟨p, 0, none⟩) (fun _ => .inl rfl) (.string ⟨#[]⟩)).setCell (p := ⟨q, 0, none⟩) (fun _ => .inr rfl) (.int .i64 3)
  have h1 : (((w.alloc (.cells #[] 166)).setCell ⟨p, 0, none⟩ (.string ⟨#[]⟩)).setCell ⟨q, 0, none⟩ (.int .i64 3)).heap[p]? = some (.cells #[.string ⟨#[]⟩] tp (0, 0)) := by
    have a1 := heap_setCell_at (j := 0) (.string ⟨#[]⟩) G1.out
    exact ((Mod.refl (fun b => b = q) _).setCell (p := ⟨q, 0, none⟩) (fun _ => rfl) _).at a1 (fun e => hne e)
  have h2 : (((w.alloc (.cells #[] 166)).setCell ⟨p, 0, none⟩ (.string ⟨#[]⟩)).setCell ⟨q, 0, none⟩ (.int .i64 3)).heap[q]? = some (.cells #[.int .i64 3] tq (0, 0)) := by
    have a1 := ((Mod.refl (fun b => b = p) _).setCell (p := ⟨p, 0, none⟩) (fun _ => rfl) (.string ⟨#[]⟩)).at G2.out (fun e => hne2 e)
    exact heap_setCell_at (j := 0) _ a1
  generalize ((w.alloc (.cells #[] 166)).setCell ⟨p, 0, none⟩ (.string ⟨#[]⟩)).setCell ⟨q, 0, none⟩ (.int .i64 3) = W at *
  simp [bodyPostS, results, Tryz.results96]
  exact ⟨hM, h1, h2⟩
theorem text_any (F : FuncId) (cap : Value) (out : List UInt8) (w : World) (hcf : ∀ (args : Array Value) (w : World), (callFunc F args).run Tryz.prog w = .ok (.enter F args) w)
    (HF : ∀ (w0 w1 : World) (p : Nat), Mod (fun _ => False) w w0 → Wr w0 w1 p none [] → Calls Tryz.prog F #[.pointer (some ⟨p, 0, none⟩), cap] w1 (WrPost w0 w1 p none out)) :
    Calls Tryz.prog 48 #[.func (.func F) #[] #[cap]] w fun e w' => e = .returned (.tuple #[.string ⟨(fitT out).1.toArray⟩, .int .i64 (fitT out).2]) ∧ Mod (fun _ => False) w w' := by
  have hmf : ∀ (fn : Fn) (first cap : Array Value) (w : World), (Instr.makeFunc fn first cap).run Tryz.prog w = .ok (.func fn first cap) w := fun _ _ _ _ => rfl
  obtain ⟨s, er, hfe⟩ : ∃ s er, fitT out = (s, er) := ⟨_, _, rfl⟩
  rw [hfe]
  have HFE := Lib.hid hfe; clear hfe
  have m2 : Mod (fun _ => False) w ((w.alloc (.cells #[.string ⟨#[]⟩] 9)).alloc (.cells #[.int .i64 0] 26)) := ((Mod.refl _ w).alloc _).alloc _
  have hb : BwAt (((w.alloc (.cells #[.string ⟨#[]⟩] 9)).alloc (.cells #[.int .i64 0] 26)).alloc (.cells #[.pointer none, .slice none 0 0] 172)) (w.heap.size + 1 + 1) none [] := by
    have := BwAt.fresh ((w.alloc (.cells #[.string ⟨#[]⟩] 9)).alloc (.cells #[.int .i64 0] 26))
    simpa using this
  have g2 : ((w.alloc (.cells #[.string ⟨#[]⟩] 9)).alloc (.cells #[.int .i64 0] 26)).heap[w.heap.size]? = some (.cells #[.string ⟨#[]⟩] 9 (0, 0)) :=
    ((Mod.refl (fun _ => False) (w.alloc (.cells #[.string ⟨#[]⟩] 9))).alloc _).at (heap_alloc_new w _) id
  have g3 : ((w.alloc (.cells #[.string ⟨#[]⟩] 9)).alloc (.cells #[.int .i64 0] 26)).heap[w.heap.size + 1]? = some (.cells #[.int .i64 0] 26 (0, 0)) := by
    have := heap_alloc_new (w.alloc (.cells #[.string ⟨#[]⟩] 9)) (.cells #[.int .i64 0] 26)
    simpa using this
  have hsz : ((w.alloc (.cells #[.string ⟨#[]⟩] 9)).alloc (.cells #[.int .i64 0] 26)).heap.size = w.heap.size + 2 := by simp
  have HC := Lib.hid (HF _ _ (w.heap.size + 1 + 1) m2 ⟨hb, (Mod.refl _ _).alloc _, by omega, by intro b h; simp at h, by simp, fun _ => rfl⟩)
  have HH := Lib.hid (And.intro g2 (And.intro g3 (And.intro hsz m2)))
  clear m2 hb g2 g3 hsz HF
  go_enter_defers Tryz.func48, Tryz.ntmps48
  go_wp2_with fail
  refine HC.out.mono ?_
  obtain ⟨w0, hw0⟩ : ∃ w0, w0 = ((w.alloc (.cells #[.string ⟨#[]⟩] 9)).alloc (.cells #[.int .i64 0] 26)) := ⟨_, rfl⟩
  obtain ⟨g2, g3, hsz, m2⟩ := HH.out
  rw [← hw0] at g2 g3 hsz m2 ⊢
  clear HH HC hw0
  rintro e w2 (⟨rfl, a', hW, _⟩ | ⟨hov, rfl, hM⟩)
  · have ha' : ∀ b, blk a' = some b → w.heap.size + 2 ≤ b := fun b hb => by have := hW.ha b hb; omega
    have g2' := hW.mod.at g2 id
    have g3' := hW.mod.at g3 id
    have HS := Lib.hid (bStringW_any (w.heap.size + 1 + 1) a' out w2 hW.at_ (by have := hW.few; omega) hW.nil)
    have G2 := Lib.hid g2'; have G3 := Lib.hid g3'; have HA := Lib.hid ha'; have HW := Lib.hid hW; have M2 := Lib.hid m2
    clear g2 g3 g2' g3' ha' hW m2
    go_wp2_with fail
    refine HS.out.mono ?_
    rintro e w3 ⟨rfl, hM3⟩
    have k2 := hM3.at G2.out (by rintro (h | h); omega; have := HA.out _ h; omega)
    have k3 := hM3.at G3.out (by rintro (h | h); omega; have := HA.out _ h; omega)
    have c2 := cell_at (j := 0) k2 rfl
    have c3 := cell_at (j := 0) k3 rfl
    have f2 : w3.frozen? ⟨w.heap.size, 0, none⟩ = false := frozen_at k2
    have f3 : w3.frozen? ⟨w.heap.size + 1, 0, none⟩ = false := frozen_at k3
    have HM3 := Lib.hid hM3; have K2 := Lib.hid k2; have K3 := Lib.hid k3
    clear hM3 k2 k3
    go_wp2_with fail
    refine leaves_cons (f := 96) (args := #[.pointer (some ⟨w.heap.size, 0, none⟩), .pointer (some ⟨w.heap.size + 1, 0, none⟩)]) (by simp) (by simp [go_sem]) ?_
    refine (catch_idle _ _ _).mono ?_
    rintro e u' w'' ⟨rfl, rfl, rfl⟩
    have hm : Mod (fun _ => False) w ((w3.setCell ⟨w.heap.size, 0, none⟩ (.string ⟨out.toArray⟩)).setCell ⟨w.heap.size + 1, 0, none⟩ (.int .i64 0)) := by
      have h1 : Mod (fun _ => False) w w2 := M2.out.trans HW.out.mod
      have h2 : Mod (fun _ => False) w w3 := h1.step HM3.out (fun i hi hs => by rcases hs with h | h; omega; have := HA.out _ h; omega)
      exact (h2.setCell (p := ⟨w.heap.size, 0, none⟩) (fun h => by simp at h) _).setCell (p := ⟨w.heap.size + 1, 0, none⟩) (fun h => by simp at h; omega) _
    have hcc : fitT out = (out, 0) := by unfold fitT; rw [if_neg (by have := HW.out.few; omega)]
    have hee := HFE.out
    rw [hcc] at hee
    simp only [Prod.mk.injEq] at hee
    obtain ⟨rfl, rfl⟩ := hee
    have d2 : ((w3.setCell ⟨w.heap.size, 0, none⟩ (.string ⟨out.toArray⟩)).setCell ⟨w.heap.size + 1, 0, none⟩ (.int .i64 0)).cell? ⟨w.heap.size, 0, none⟩ = some (.string ⟨out.toArray⟩) := by
      have a1 := heap_setCell_at (j := 0) (.string ⟨out.toArray⟩) K2.out
      exact cell_at (((Mod.refl (fun b => b = w.heap.size + 1) _).setCell (p := ⟨w.heap.size + 1, 0, none⟩) (fun _ => rfl) _).at a1 (by omega)) rfl
    have d3 : ((w3.setCell ⟨w.heap.size, 0, none⟩ (.string ⟨out.toArray⟩)).setCell ⟨w.heap.size + 1, 0, none⟩ (.int .i64 0)).cell? ⟨w.heap.size + 1, 0, none⟩ = some (.int .i64 0) := by
      have a1 := ((Mod.refl (fun b => b = w.heap.size) w3).setCell (p := ⟨w.heap.size, 0, none⟩) (fun _ => rfl) (.string ⟨out.toArray⟩)).at K3.out (by omega)
      exact cell_at (heap_setCell_at (j := 0) _ a1) rfl
    obtain ⟨W, hWW⟩ : ∃ W, W = (w3.setCell ⟨w.heap.size, 0, none⟩ (.string ⟨out.toArray⟩)).setCell ⟨w.heap.size + 1, 0, none⟩ (.int .i64 0) := ⟨_, rfl⟩
    rw [← hWW] at hm d2 d3 ⊢
    clear hWW c2 c3
    simp [Leaves, settle, results, Tryz.results48, go_sem, d2, d3]
    exact hm
  · have HOV := Lib.hid hov; have HM := Lib.hid hM; have M2 := Lib.hid m2
    have G2 := Lib.hid (hM.at g2 id); have G3 := Lib.hid (hM.at g3 id)
    clear hov hM m2 g2 g3
    go_wp2_with fail
    refine leaves_cons (f := 96) (args := #[.pointer (some ⟨w.heap.size, 0, none⟩), .pointer (some ⟨w.heap.size + 1, 0, none⟩)]) (by simp) (by simp [go_sem]) ?_
    refine (catch_long _ _ _ _ _ _ _ G2.out G3.out (by omega)).mono ?_
    rintro e u' w'' ⟨rfl, rfl, hM3, k2, k3⟩
    have c2 := cell_at (j := 0) k2 rfl
    have c3 := cell_at (j := 0) k3 rfl
    have hcc : fitT out = ([], 3) := by unfold fitT; rw [if_pos HOV.out]
    have hee := HFE.out
    rw [hcc] at hee
    simp only [Prod.mk.injEq] at hee
    obtain ⟨rfl, rfl⟩ := hee
    have hm : Mod (fun _ => False) w w'' := (M2.out.trans HM.out).step hM3 (fun i hi hs => by rcases hs with h | h <;> omega)
    simp [Leaves, settle, results, Tryz.results48, go_sem, c2, c3]
    exact hm
/-- the closures' contracts -/
theorem watomC_any (a : Am) (ok : OkAm a) (s : Value) (w0 w1 w : World) (g p : Nat) (hb : w.heap[g]? = some (.cells #[.string a.pred, s] 43 (0, 0))) (ht : TsAt w s a.terms) (hm : Mod (fun _ => False) w w0) (h : Wr w0 w1 p none []) :
    Calls Tryz.prog 59 #[.pointer (some ⟨p, 0, none⟩), .pointer (some ⟨g, 0, none⟩)] w1 (WrPost w0 w1 p none (amT a)) := by
  have hb1 := (hm.trans h.mod).at hb id
  have c0 : w1.cell? ⟨g, 0, none⟩ = some (.string a.pred) := cell_at hb1 rfl
  have c1 : w1.cell? ⟨g, 1, none⟩ = some s := cell_at hb1 rfl
  have HA := Lib.hid (watom_any a ok s w0 w1 p none [] (ht.mod0 hm) h)
  rw [List.nil_append] at HA
  obtain ⟨ad, c, rfl, _⟩ := ht
  clear hb1 hb
  go_enter Tryz.func59, Tryz.ntmps59
  go_wp2_with fail
  refine HA.out.mono ?_
  rintro e w2 (⟨rfl, a2, hW2, hG2⟩ | ⟨hov, rfl, hM2⟩)
  · have HW2 := Lib.hid hW2; have HG2 := Lib.hid hG2; clear hW2 hG2
    go_wp2_with fail
    go_end0
    exact .inl ⟨rfl, a2, HW2.out, HG2.out⟩
  · have HOV := Lib.hid hov; have HM2 := Lib.hid hM2; clear hov hM2
    go_wp2_with fail
    exact ⟨rfl, .inr ⟨HOV.out, rfl, HM2.out⟩⟩
theorem ruleC_any (r : Rm) (ok : OkRm r) (s b : Value) (w0 w1 w : World) (g p : Nat) (hb : w.heap[g]? = some (.cells #[.string r.head.pred, s, b] 46 (0, 0))) (ht : TsAt w s r.head.terms) (hl : LsAt w b r.body) (hm : Mod (fun _ => False) w w0) (h : Wr w0 w1 p none []) :
    Calls Tryz.prog 55 #[.pointer (some ⟨p, 0, none⟩), .pointer (some ⟨g, 0, none⟩)] w1 (WrPost w0 w1 p none (rmT r)) := by
  have hb1 := (hm.trans h.mod).at hb id
  have c0 : w1.cell? ⟨g, 0, none⟩ = some (.string r.head.pred) := cell_at hb1 rfl
  have c1 : w1.cell? ⟨g, 1, none⟩ = some s := cell_at hb1 rfl
  have c2 : w1.cell? ⟨g, 2, none⟩ = some b := cell_at hb1 rfl
  have HA := Lib.hid (wrule_any r ok s b w0 w1 p none [] (ht.mod0 hm) (hl.mod0 hm) h)
  rw [List.nil_append] at HA
  unfold rmV at HA
  obtain ⟨ad, c, rfl, _⟩ := ht
  obtain ⟨bd, bc, _, rfl, _⟩ := hl
  clear hb1 hb
  go_enter Tryz.func55, Tryz.ntmps55
  go_wp2_with fail
  refine HA.out.mono ?_
  rintro e w2 (⟨rfl, a2, hW2, hG2⟩ | ⟨hov, rfl, hM2⟩)
  · have HW2 := Lib.hid hW2; have HG2 := Lib.hid hG2; clear hW2 hG2
    go_wp2_with fail
    go_end0
    exact .inl ⟨rfl, a2, HW2.out, HG2.out⟩
  · have HOV := Lib.hid hov; have HM2 := Lib.hid hM2; clear hov hM2
    go_wp2_with fail
    exact ⟨rfl, .inr ⟨HOV.out, rfl, HM2.out⟩⟩
end Go.Proofs.YteecbbnpgmceiaaGreatDoor
/-
  print.Program, Rule, Atom.
-/
namespace Go.Proofs.YteecbbnpgmceiaaGreatDoor
open Go Go.RowKit Go.Mine
set_option linter.unusedVariables false
set_option maxHeartbeats 4000000
set_option maxRecDepth 100000

theorem pmT_take (rs : List Rm) {k : Nat} (hk : k < rs.length) : pmT (rs.take (k + 1)) = pmT (rs.take k) ++ rmT rs[k] ++ [10] := by
  rw [List.take_succ_eq_append_getElem hk]
  unfold pmT
  rw [List.flatMap_append, List.append_assoc]
  simp
theorem pmT_le (rs : List Rm) (k : Nat) : (pmT (rs.take k)).length ≤ (pmT rs).length := by
  have e : pmT rs = pmT (rs.take k) ++ pmT (rs.drop k) := by
    unfold pmT
    rw [← List.flatMap_append, List.take_append_drop]
  rw [e, List.length_append]
  omega
theorem progC_any (rs : List Rm) (ok : ∀ r ∈ rs, OkRm r) (hn : rs.length ≤ 1024) (v0 : Value) (w0 w1 w : World) (g p : Nat) (hb : w.heap[g]? = some (.cells #[v0] 24 (0, 0))) (hr : RsAt w v0 rs) (hm : Mod (fun _ => False) w w0) (h : Wr w0 w1 p none []) :
    Calls Tryz.prog 49 #[.pointer (some ⟨p, 0, none⟩), .pointer (some ⟨g, 0, none⟩)] w1 (WrPost w0 w1 p none (pmT rs)) := by
  have hb1 := (hm.trans h.mod).at hb id
  have c0 : w1.cell? ⟨g, 0, none⟩ = some v0 := cell_at hb1 rfl
  obtain ⟨ad, c, xs, rfl, hx, hrx, hxt⟩ := hr
  have HR := Lib.hid hrx; have HX := Lib.hid hx; have HXT := Lib.hid hxt; have HOK := Lib.hid ok; have H := Lib.hid h; have HM := Lib.hid hm
  clear hb1 hb hrx hx hxt ok h hm
  go_enter Tryz.func49, Tryz.ntmps49
  go_wp2_with fail
  go_loopw [8] (fun iv wr => ∃ (k : Nat) (a' : Option Addr), iv = .int .i64 k ∧ k ≤ rs.length ∧ Hid (Wr w0 wr p a' (pmT (rs.take k))) ∧ Hid (BuGo w1 p none wr a')) (fun iv _ => rs.length - (intOf iv).toNat)
  case atStart => exact ⟨0, none, rfl, Nat.zero_le _, H, Lib.hid (BuGo.refl _ _ _)⟩
  case round =>
    obtain ⟨k, a', rfl, hk, hW, hG⟩ := hrel
    clear c0
    by_cases hlt : k < rs.length
    · obtain ⟨sk, bk, hx, hmem⟩ := xs_get3 HX.out hlt
      obtain ⟨bb, o, rfl, x0, x1, x2⟩ := rd_cellR (HR.out.mod (HM.out.trans hW.out.mod) (fun _ _ => id)) hx
      have HRU := Lib.hid (fun (v : World) (a1 : Option Addr) (l : List UInt8) (hw : Wr w0 v p a1 l) => wrule_any rs[k] (HOK.out _ (List.getElem_mem hlt)) sk bk w0 v p a1 l ((HXT.out _ hmem).1.mod0 HM.out) ((HXT.out _ hmem).2.mod0 HM.out) hw)
      obtain ⟨⟨sa, sc, hsk, _⟩, ⟨ba, bc, _, hbk, _⟩⟩ := HXT.out _ hmem
      simp only at hsk hbk
      subst hsk hbk
      have HST := Lib.hid (pmT_take rs hlt)
      have HLE2 := Lib.hid (pmT_le rs (k + 1))
      unfold rmV at HRU
      clear hx hmem
      try simp only at x1 x2 HRU
      generalize rs[k] = r at *
      obtain ⟨⟨lp, lts⟩, lb⟩ := r
      simp only at *
      have HRV := Lib.hid (HRU.out _ a' _ (hW.out.mod0 ((Mod.refl (fun _ => False) wr).alloc (.cells #[.string lp, .slice sa lts.length sc, .slice ba lb.length bc] 46))))
      clear HRU
      go_wp2_with fail
      refine HRV.out.mono ?_
      rintro e v1 (⟨rfl, a1, hW1, hG1⟩ | ⟨hov, rfl, hM2⟩)
      · have HP := Lib.hid (put_one ⟨#[10]⟩ w0 v1 p a1 _ hW1 (by decide) v1.heap.size rfl _ rfl)
        have HG1 := Lib.hid hG1; clear hW1 hG1
        go_wp2_with fail
        refine HP.out.mono ?_
        rintro e v2 (⟨rfl, a2, hW2, hG2⟩ | ⟨hov, rfl, hM2⟩)
        · have HW2 := Lib.hid hW2; have HG2 := Lib.hid hG2; clear hW2 hG2
          go_wp2_with fail
          go_roundw
          case rel => exact ⟨k + 1, a2, by go_num, hlt, by rw [HST.out]; exact HW2.out, Lib.hid (hG.out.trans (BuGo.pre0 ((Mod.refl _ wr).alloc _) (HG1.out.trans HG2.out)))⟩
          case measure => simp [intOf]; omega
        · skip
          have HOV := Lib.hid hov; have HM2 := Lib.hid hM2; clear hov hM2
          go_wp2_with fail
          exact ⟨rfl, .inr ⟨by have h1 := HOV.out; have h2 := HLE2.out; rw [HST.out] at h2; exact Nat.lt_of_lt_of_le h1 h2, rfl, HM2.out⟩⟩
      · skip
        have HOV := Lib.hid hov; have HM2 := Lib.hid hM2; clear hov hM2
        go_wp2_with fail
        exact ⟨rfl, .inr ⟨by have h1 := HOV.out; have h2 := HLE2.out; rw [HST.out, List.length_append] at h2; omega, rfl, HM2.out⟩⟩
    · obtain rfl : k = rs.length := by omega
      have hW2 := hW.out
      rw [List.take_length] at hW2
      have HW2 := Lib.hid hW2; clear hW2
      go_wp2_with fail
      go_end0
      exact .inl ⟨rfl, a', HW2.out, hG.out⟩

/-- what Program, Rule, Atom answer -/
def outP (e : Int) (l : List UInt8) : List UInt8 × Int := if e ≠ 0 then ([], e) else fitT l
def SayP (x : List UInt8 × Int) (w : World) (e : Ending) (w' : World) : Prop := e = .returned (.tuple #[.string ⟨x.1.toArray⟩, .int .i64 x.2]) ∧ Mod (fun _ => False) w w'
theorem Atom_any (a : Am) (s : Value) (w : World) (hs : SmallAm a) (ht : TsAt w s a.terms) :
    Calls Tryz.prog 20 #[.agg #[.string a.pred, s]] w (SayP (outP (mayAm false a) (amT a)) w) := by
  have hm0 : Mod (fun _ => False) w (w.alloc (.cells #[.string a.pred, s] 43)) := (Mod.refl _ w).alloc _
  have HA := Lib.hid (MayAtom_any a s _ hs (ht.mod0 hm0))
  have hmf : ∀ (fn : Fn) (first cap : Array Value) (w : World), (Instr.makeFunc fn first cap).run Tryz.prog w = .ok (.func fn first cap) w := fun _ _ _ _ => rfl
  have HT := Lib.hid ht
  have HN := Lib.hid (heap_alloc_new w (.cells #[.string a.pred, s] 43))
  have HM0 := Lib.hid hm0
  have HOK := Lib.hid (fun h => okAm (head := false) (a := a) h)
  obtain ⟨ad, c, rfl, _⟩ := ht
  clear hm0
  unfold SayP outP
  generalize mayAm false a = x at *
  by_cases hx : x = 0
  · subst hx
    rw [if_neg (by simp)]
    have HTX := Lib.hid (fun (w1 : World) (m : Mod (fun _ => False) (w.alloc (.cells #[.string a.pred, .slice ad a.terms.length c] 43)) w1) => text_any 59 (.pointer (some ⟨w.heap.size, 0, none⟩)) (amT a) w1 (fun _ _ => by go_simp) (fun w0 w2 p h1 h2 => watomC_any a (HOK.out rfl) _ w0 w2 w1 w.heap.size p (m.at HN.out id) (HT.out.mod0 (HM0.out.trans m)) h1 h2))
    go_enter Tryz.func20, Tryz.ntmps20
    go_wp2_with fail
    refine HA.out.mono ?_
    rintro e w1 ⟨rfl, hM1⟩
    have HTX2 := Lib.hid (HTX.out w1 hM1)
    have HM1 := Lib.hid hM1; clear hM1 HTX
    go_wp2_with fail
    refine HTX2.out.mono ?_
    rintro e w2 ⟨rfl, hM2⟩
    have HM2 := Lib.hid hM2; clear hM2 HTX2
    go_wp2_with fail
    go_ret2
    exact ⟨rfl, HM0.out.trans (HM1.out.trans HM2.out)⟩
  · rw [if_pos hx]
    have hxb : (x != 0) = true := by simpa using hx
    clear hx
    go_enter Tryz.func20, Tryz.ntmps20
    go_wp2_with fail
    refine HA.out.mono ?_
    rintro e w1 ⟨rfl, hM1⟩
    have HM1 := Lib.hid hM1; clear hM1
    go_wp2_with fail
    go_ret2
    exact ⟨rfl, HM0.out.trans HM1.out⟩
theorem Rule_any (r : Rm) (s b : Value) (w : World) (hs : SmallRm r) (ht : TsAt w s r.head.terms) (hl : LsAt w b r.body) :
    Calls Tryz.prog 16 #[rmV r s b] w (SayP (outP (mayRm r) (rmT r)) w) := by
  unfold rmV
  have hm0 : Mod (fun _ => False) w (w.alloc (.cells #[.string r.head.pred, s, b] 46)) := (Mod.refl _ w).alloc _
  have HA := Lib.hid (MayRule_any r s b _ hs (ht.mod0 hm0) (hl.mod0 hm0))
  unfold rmV at HA
  have hmf : ∀ (fn : Fn) (first cap : Array Value) (w : World), (Instr.makeFunc fn first cap).run Tryz.prog w = .ok (.func fn first cap) w := fun _ _ _ _ => rfl
  have HT := Lib.hid ht; have HL := Lib.hid hl
  have HN := Lib.hid (heap_alloc_new w (.cells #[.string r.head.pred, s, b] 46))
  have HM0 := Lib.hid hm0
  have HOK := Lib.hid (fun h => okRm (r := r) h)
  obtain ⟨ad, c, rfl, _⟩ := ht
  obtain ⟨bd, bc, _, rfl, _⟩ := hl
  clear hm0
  unfold SayP outP
  generalize mayRm r = x at *
  by_cases hx : x = 0
  · subst hx
    rw [if_neg (by simp)]
    have HTX := Lib.hid (fun (w1 : World) (m : Mod (fun _ => False) (w.alloc (.cells #[.string r.head.pred, .slice ad r.head.terms.length c, .slice bd r.body.length bc] 46)) w1) => text_any 55 (.pointer (some ⟨w.heap.size, 0, none⟩)) (rmT r) w1 (fun _ _ => by go_simp) (fun w0 w2 p h1 h2 => ruleC_any r (HOK.out rfl) _ _ w0 w2 w1 w.heap.size p (m.at HN.out id) (HT.out.mod0 (HM0.out.trans m)) (HL.out.mod0 (HM0.out.trans m)) h1 h2))
    go_enter Tryz.func16, Tryz.ntmps16
    go_wp2_with fail
    refine HA.out.mono ?_
    rintro e w1 ⟨rfl, hM1⟩
    have HTX2 := Lib.hid (HTX.out w1 hM1)
    have HM1 := Lib.hid hM1; clear hM1 HTX
    go_wp2_with fail
    refine HTX2.out.mono ?_
    rintro e w2 ⟨rfl, hM2⟩
    have HM2 := Lib.hid hM2; clear hM2 HTX2
    go_wp2_with fail
    go_ret2
    exact ⟨rfl, HM0.out.trans (HM1.out.trans HM2.out)⟩
  · rw [if_pos hx]
    have hxb : (x != 0) = true := by simpa using hx
    clear hx
    go_enter Tryz.func16, Tryz.ntmps16
    go_wp2_with fail
    refine HA.out.mono ?_
    rintro e w1 ⟨rfl, hM1⟩
    have HM1 := Lib.hid hM1; clear hM1
    go_wp2_with fail
    go_ret2
    exact ⟨rfl, HM0.out.trans HM1.out⟩
theorem Program_any (rs : List Rm) (v0 : Value) (w : World) (hs : SmallPm rs) (hr : RsAt w v0 rs) :
    Calls Tryz.prog 14 #[.agg #[v0]] w (SayP (outP (mayPm rs) (pmT rs)) w) := by
  have hm0 : Mod (fun _ => False) w (w.alloc (.cells #[v0] 24)) := (Mod.refl _ w).alloc _
  have HA := Lib.hid (May_any rs v0 _ hs (hr.mod0 hm0))
  have hmf : ∀ (fn : Fn) (first cap : Array Value) (w : World), (Instr.makeFunc fn first cap).run Tryz.prog w = .ok (.func fn first cap) w := fun _ _ _ _ => rfl
  have HR := Lib.hid hr
  have HN := Lib.hid (heap_alloc_new w (.cells #[v0] 24))
  have HM0 := Lib.hid hm0
  have HOK := Lib.hid (fun h => okPm (rs := rs) h)
  obtain ⟨ad, c, _, rfl, _⟩ := hr
  clear hm0
  unfold SayP outP
  generalize mayPm rs = x at *
  by_cases hx : x = 0
  · subst hx
    rw [if_neg (by simp)]
    have HTX := Lib.hid (fun (w1 : World) (m : Mod (fun _ => False) (w.alloc (.cells #[.slice ad rs.length c] 24)) w1) => text_any 49 (.pointer (some ⟨w.heap.size, 0, none⟩)) (pmT rs) w1 (fun _ _ => by go_simp) (fun w0 w2 p h1 h2 => progC_any rs (HOK.out rfl).2 (HOK.out rfl).1 _ w0 w2 w1 w.heap.size p (m.at HN.out id) (HR.out.mod0 (HM0.out.trans m)) h1 h2))
    go_enter Tryz.func14, Tryz.ntmps14
    go_wp2_with fail
    refine HA.out.mono ?_
    rintro e w1 ⟨rfl, hM1⟩
    have HTX2 := Lib.hid (HTX.out w1 hM1)
    have HM1 := Lib.hid hM1; clear hM1 HTX
    go_wp2_with fail
    refine HTX2.out.mono ?_
    rintro e w2 ⟨rfl, hM2⟩
    have HM2 := Lib.hid hM2; clear hM2 HTX2
    go_wp2_with fail
    go_ret2
    exact ⟨rfl, HM0.out.trans (HM1.out.trans HM2.out)⟩
  · rw [if_pos hx]
    have hxb : (x != 0) = true := by simpa using hx
    clear hx
    go_enter Tryz.func14, Tryz.ntmps14
    go_wp2_with fail
    refine HA.out.mono ?_
    rintro e w1 ⟨rfl, hM1⟩
    have HM1 := Lib.hid hM1; clear hM1
    go_wp2_with fail
    go_ret2
    exact ⟨rfl, HM0.out.trans HM1.out⟩
end Go.Proofs.YteecbbnpgmceiaaGreatDoor
