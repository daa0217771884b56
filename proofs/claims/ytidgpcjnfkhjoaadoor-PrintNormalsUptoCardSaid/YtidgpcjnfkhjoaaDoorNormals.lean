/-
  PrintNormals walked: true for every two rules.
-/
import Derived.Test.YtidgpcjnfkhjoaaDoorAlike
import Derived.Test.YtidgpcjnfkhjoaaDoorKept
namespace Go.Proofs.YtidgpcjnfkhjoaaDoor
open Go Go.RowKit Go.Mine
set_option linter.unusedVariables false
set_option maxHeartbeats 8000000
set_option maxRecDepth 100000

theorem num_any (x : Int) (w : World) : Calls Tryd.prog 22 #[.int .i64 x] w fun e w' => e = .returned (.int .i64 x) ∧ w = w' := by
  go_enter Tryd.func22, Tryd.ntmps22
  go_wp2_with fail
  go_ret
  exact ⟨rfl, rfl⟩
/-- a rule laid into a box of its own -/
def BoxR (w : World) (g : Nat) (row : Array Value) : Prop := w.heap[g]? = some (.cells row 43 (0, 0))
theorem BoxR.mod {S : Nat → Prop} {w w' : World} {g : Nat} {row : Array Value} (h : BoxR w g row) (m : Mod S w w') (hs : ¬ S g) : BoxR w' g row := m.at h hs
theorem BoxR.c3 {w : World} {g : Nat} {x y z : Value} (h : BoxR w g #[x, y, z]) : w.cell? ⟨g, 0, none⟩ = some x ∧ w.cell? ⟨g, 1, none⟩ = some y ∧ w.cell? ⟨g, 2, none⟩ = some z :=
  ⟨cell_at (j := 0) h rfl, cell_at (j := 1) h rfl, cell_at (j := 2) h rfl⟩
theorem BoxR.lt {w : World} {g : Nat} {row : Array Value} (h : BoxR w g row) : g < w.heap.size := (Array.getElem?_eq_some_iff.1 h).1
/-- what lies ready when the two copies have been made -/
structure TwoOwn (w wx : World) (r q : Rm) (g5 g6 gh ch gb cb gh' ch' gb' cb' n1 n2 n3 n4 : Nat) (xs ys : List X3) : Prop where
  b5 : BoxR wx g5 #[.string r.head.pred, .slice (some ⟨gh, 0, none⟩) r.head.terms.length ch, .slice (some ⟨gb, 0, none⟩) r.body.length cb]
  b6 : BoxR wx g6 #[.string q.head.pred, .slice (some ⟨gh', 0, none⟩) q.head.terms.length ch', .slice (some ⟨gb', 0, none⟩) q.body.length cb']
  o1 : OwnR wx (fun b => n1 ≤ b ∧ b < n2) r gh ch gb cb xs
  o2 : OwnR wx (fun b => n3 ≤ b ∧ b < n4) q gh' ch' gb' cb' ys
  lo : w.heap.size + 2 ≤ n1 ∧ w.heap.size + 2 ≤ n3
  le : n2 ≤ n3
  hi : n2 ≤ wx.heap.size ∧ n4 ≤ wx.heap.size
  f5 : w.heap.size + 2 ≤ g5 ∧ (g5 < n1 ∨ n2 ≤ g5) ∧ (g5 < n3 ∨ n4 ≤ g5)
  f6 : w.heap.size + 2 ≤ g6 ∧ (g6 < n1 ∨ n2 ≤ g6) ∧ (g6 < n3 ∨ n4 ≤ g6)
  m : Mod (fun _ => False) w wx

def ZR : Array Value := #[.string ⟨#[]⟩, .slice none 0 0, .slice none 0 0]
theorem BoxR.fz {w : World} {g : Nat} {row : Array Value} (h : BoxR w g row) (j : Nat) : w.frozen? ⟨g, j, none⟩ = false := frozen_at h
theorem BoxR.z6 {w : World} {g : Nat} (h : BoxR w g ZR) : (w.cell? ⟨g, 0, none⟩ = some (.string ⟨#[]⟩) ∧ w.cell? ⟨g, 1, none⟩ = some (.slice none 0 0) ∧ w.cell? ⟨g, 2, none⟩ = some (.slice none 0 0)) ∧
    w.frozen? ⟨g, 0, none⟩ = false ∧ w.frozen? ⟨g, 1, none⟩ = false ∧ w.frozen? ⟨g, 2, none⟩ = false := ⟨BoxR.c3 h, h.fz 0, h.fz 1, h.fz 2⟩
theorem box_one (w : World) : BoxR (w.alloc (.cells #[.string ⟨#[]⟩, .slice none 0 0, .slice none 0 0] 43)) w.heap.size ZR := heap_alloc_new w _
theorem box_two1 (w : World) : BoxR ((w.alloc (.cells #[.string ⟨#[]⟩, .slice none 0 0, .slice none 0 0] 43)).alloc (.cells #[.string ⟨#[]⟩, .slice none 0 0, .slice none 0 0] 43)) w.heap.size ZR := heap_two1 w _ _
theorem box_two2 (w : World) : BoxR ((w.alloc (.cells #[.string ⟨#[]⟩, .slice none 0 0, .slice none 0 0] 43)).alloc (.cells #[.string ⟨#[]⟩, .slice none 0 0, .slice none 0 0] 43)) (w.heap.size + 1) ZR := heap_two2 w _ _
theorem BoxR.put3 {w : World} {g : Nat} {x y z a b c : Value} (h : BoxR w g #[x, y, z]) : BoxR (((w.setCell ⟨g, 0, none⟩ a).setCell ⟨g, 1, none⟩ b).setCell ⟨g, 2, none⟩ c) g #[a, b, c] ∧ Mod (fun k => k = g) w (((w.setCell ⟨g, 0, none⟩ a).setCell ⟨g, 1, none⟩ b).setCell ⟨g, 2, none⟩ c) := by
  have h1 : (w.setCell ⟨g, 0, none⟩ a).heap[g]? = some (.cells #[a, y, z] 43 (0, 0)) := heap_setCell_at (j := 0) a h
  have h2 : ((w.setCell ⟨g, 0, none⟩ a).setCell ⟨g, 1, none⟩ b).heap[g]? = some (.cells #[a, b, z] 43 (0, 0)) := heap_setCell_at (j := 1) b h1
  have h3 : (((w.setCell ⟨g, 0, none⟩ a).setCell ⟨g, 1, none⟩ b).setCell ⟨g, 2, none⟩ c).heap[g]? = some (.cells #[a, b, c] 43 (0, 0)) := heap_setCell_at (j := 2) c h2
  exact ⟨h3, (((Mod.refl (fun k => k = g) w).setCell (p := ⟨g, 0, none⟩) (fun _ => rfl) a).setCell (p := ⟨g, 1, none⟩) (fun _ => rfl) b).setCell (p := ⟨g, 2, none⟩) (fun _ => rfl) c⟩
theorem shape2 {wo wb : World} {g5 g6 : Nat} {a1 a2 a3 b1 b2 b3 : Value} (h5 : BoxR wb g5 ZR) (h6 : BoxR wb g6 ZR) (hne : g5 ≠ g6) (m : Mod (fun _ => False) wo wb) :
    BoxR ((((((wb.setCell ⟨g5, 0, none⟩ a1).setCell ⟨g5, 1, none⟩ a2).setCell ⟨g5, 2, none⟩ a3).setCell ⟨g6, 0, none⟩ b1).setCell ⟨g6, 1, none⟩ b2).setCell ⟨g6, 2, none⟩ b3) g5 #[a1, a2, a3] ∧ BoxR ((((((wb.setCell ⟨g5, 0, none⟩ a1).setCell ⟨g5, 1, none⟩ a2).setCell ⟨g5, 2, none⟩ a3).setCell ⟨g6, 0, none⟩ b1).setCell ⟨g6, 1, none⟩ b2).setCell ⟨g6, 2, none⟩ b3) g6 #[b1, b2, b3] ∧ Mod (fun b => b = g5 ∨ b = g6) wo ((((((wb.setCell ⟨g5, 0, none⟩ a1).setCell ⟨g5, 1, none⟩ a2).setCell ⟨g5, 2, none⟩ a3).setCell ⟨g6, 0, none⟩ b1).setCell ⟨g6, 1, none⟩ b2).setCell ⟨g6, 2, none⟩ b3) := by
  obtain ⟨p5, m5⟩ := BoxR.put3 (a := a1) (b := a2) (c := a3) h5
  obtain ⟨p6, m6⟩ := BoxR.put3 (a := b1) (b := b2) (c := b3) (h6.mod m5 (fun e => hne e.symm))
  exact ⟨p5.mod m6 (fun e => hne e), p6, ((m.mono (fun _ _ h => h.elim)).trans (m5.mono (fun _ _ e => .inl e))).trans (m6.mono (fun _ _ e => .inr e))⟩
theorem shape1 (wo : World) (a1 a2 a3 b1 b2 b3 : Value) : BoxR ((wo.alloc (.cells #[a1, a2, a3] 43)).alloc (.cells #[b1, b2, b3] 43)) wo.heap.size #[a1, a2, a3] ∧ BoxR ((wo.alloc (.cells #[a1, a2, a3] 43)).alloc (.cells #[b1, b2, b3] 43)) (wo.heap.size + 1) #[b1, b2, b3] ∧ Mod (fun b => b = wo.heap.size ∨ b = wo.heap.size + 1) wo ((wo.alloc (.cells #[a1, a2, a3] 43)).alloc (.cells #[b1, b2, b3] 43)) :=
  ⟨heap_two1 wo _ _, heap_two2 wo _ _, ((Mod.refl _ wo).alloc _).alloc _⟩
theorem shape1p (wo : World) (a1 a2 a3 b1 b2 b3 : Value) : BoxR ((wo.alloc (.cells #[b1, b2, b3] 43)).alloc (.cells #[a1, a2, a3] 43)) (wo.heap.size + 1) #[a1, a2, a3] ∧ BoxR ((wo.alloc (.cells #[b1, b2, b3] 43)).alloc (.cells #[a1, a2, a3] 43)) wo.heap.size #[b1, b2, b3] ∧ Mod (fun b => b = wo.heap.size + 1 ∨ b = wo.heap.size) wo ((wo.alloc (.cells #[b1, b2, b3] 43)).alloc (.cells #[a1, a2, a3] 43)) :=
  ⟨heap_two2 wo _ _, heap_two1 wo _ _, ((Mod.refl _ wo).alloc _).alloc _⟩
theorem shape3 {wo : World} {g6 : Nat} {a1 a2 a3 b1 b2 b3 : Value} (h6 : BoxR wo g6 ZR) :
    BoxR ((((wo.alloc (.cells #[a1, a2, a3] 43)).setCell ⟨g6, 0, none⟩ b1).setCell ⟨g6, 1, none⟩ b2).setCell ⟨g6, 2, none⟩ b3) wo.heap.size #[a1, a2, a3] ∧ BoxR ((((wo.alloc (.cells #[a1, a2, a3] 43)).setCell ⟨g6, 0, none⟩ b1).setCell ⟨g6, 1, none⟩ b2).setCell ⟨g6, 2, none⟩ b3) g6 #[b1, b2, b3] ∧ Mod (fun b => b = wo.heap.size ∨ b = g6) wo ((((wo.alloc (.cells #[a1, a2, a3] 43)).setCell ⟨g6, 0, none⟩ b1).setCell ⟨g6, 1, none⟩ b2).setCell ⟨g6, 2, none⟩ b3) := by
  have hlt := h6.lt
  have hb : BoxR (wo.alloc (.cells #[a1, a2, a3] 43)) wo.heap.size #[a1, a2, a3] := heap_alloc_new wo _
  have m : Mod (fun _ => False) wo (wo.alloc (.cells #[a1, a2, a3] 43)) := (Mod.refl _ wo).alloc _
  obtain ⟨p6, m6⟩ := BoxR.put3 (a := b1) (b := b2) (c := b3) (h6.mod m id)
  exact ⟨hb.mod m6 (fun e => by omega), p6, (m.mono (fun _ _ h => h.elim)).trans (m6.mono (fun _ _ e => .inr e))⟩
theorem two_gen {w w0 wo1 wo2 wx : World} {r q : Rm} {g5 g6 gh ch gb cb gh' ch' gb' cb' n1 n2 n3 n4 : Nat} {xs ys : List X3} (hM0 : Mod (fun _ => False) w w0)
    (hY1 : OwnR wo1 (fun b => n1 ≤ b ∧ b < n2) r gh ch gb cb xs) (hY2 : OwnR wo2 (fun b => n3 ≤ b ∧ b < n4) q gh' ch' gb' cb' ys)
    (hM12 : Mod (fun _ => False) wo1 wo2) (hMw : Mod (fun _ => False) w0 wo2)
    (hz : w0.heap.size = w.heap.size + 2) (hs : BoxR wx g5 #[.string r.head.pred, .slice (some ⟨gh, 0, none⟩) r.head.terms.length ch, .slice (some ⟨gb, 0, none⟩) r.body.length cb] ∧ BoxR wx g6 #[.string q.head.pred, .slice (some ⟨gh', 0, none⟩) q.head.terms.length ch', .slice (some ⟨gb', 0, none⟩) q.body.length cb'] ∧ Mod (fun b => b = g5 ∨ b = g6) wo2 wx) (lo : w0.heap.size ≤ n1 ∧ w0.heap.size ≤ n3) (le : n2 ≤ n3) (hi : n2 ≤ wo2.heap.size ∧ n4 ≤ wo2.heap.size)
    (f5 : w0.heap.size ≤ g5 ∧ (g5 < n1 ∨ n2 ≤ g5) ∧ (g5 < n3 ∨ n4 ≤ g5)) (f6 : w0.heap.size ≤ g6 ∧ (g6 < n1 ∨ n2 ≤ g6) ∧ (g6 < n3 ∨ n4 ≤ g6)) :
    ∃ G5 G6 gh ch gb cb gh' ch' gb' cb' n1 n2 n3 n4 xs ys, Value.pointer (some ⟨g5, 0, none⟩) = .pointer (some ⟨G5, 0, none⟩) ∧ Value.pointer (some ⟨g6, 0, none⟩) = .pointer (some ⟨G6, 0, none⟩) ∧ Hid (Mod (fun _ => False) w0 wx) ∧ Hid (TwoOwn w wx r q G5 G6 gh ch gb cb gh' ch' gb' cb' n1 n2 n3 n4 xs ys) := by
  obtain ⟨q5, p6, hm⟩ := hs
  have hsz := hm.size
  have hmw : Mod (fun _ => False) w0 wx := hMw.step hm (fun i hi e => by omega)
  refine ⟨g5, g6, gh, ch, gb, cb, gh', ch', gb', cb', n1, n2, n3, n4, xs, ys, rfl, rfl, Lib.hid hmw, Lib.hid ⟨q5, p6, ?_, ?_, by omega, le, by omega, by omega, by omega, hM0.trans hmw⟩⟩
  · exact (hY1.mod hM12 (fun _ _ => id)).mod hm (fun b hb e => by omega)
  · exact hY2.mod hm (fun b hb e => by omega)

theorem PrintNormals_true (r q : Rm) (s1 b1 s2 b2 : Value) (w : World) (hs1 : SmallRm r) (hs2 : SmallRm q) (h1 : TsAt w s1 r.head.terms) (g1 : LsAt w b1 r.body) (h2 : TsAt w s2 q.head.terms) (g2 : LsAt w b2 q.body) (hpw : Pow w) :
    Calls Tryd.prog 4 #[rmV r s1 b1, rmV q s2 b2] w fun e w' => e = .returned (.bool true) ∧ Mod (fun _ => False) w w' := by
  have hm0 : Mod (fun _ => False) w (((w.alloc (.cells #[.string r.head.pred, s1, b1] 43)).alloc (.cells #[.string q.head.pred, s2, b2] 43))) := ((Mod.refl _ w).alloc _).alloc _
  have HT1 := Lib.hid h1; have HL1 := Lib.hid g1; have HT2 := Lib.hid h2; have HL2 := Lib.hid g2; have HPW := Lib.hid hpw
  have HS1 := Lib.hid hs1; have HS2 := Lib.hid hs2
  have HO1 := Lib.hid (fun wx (m : Mod (fun _ => False) w wx) => own_any r s1 b1 wx (h1.mod0 m) (g1.mod0 m) hs1.1.2.1 hs1.2.1 (fun l hl => (hs1.2.2 l hl).1.2.1))
  have HO2 := Lib.hid (fun wx (m : Mod (fun _ => False) w wx) => own_any q s2 b2 wx (h2.mod0 m) (g2.mod0 m) hs2.1.2.1 hs2.2.1 (fun l hl => (hs2.2.2 l hl).1.2.1))
  have HRN := Lib.hid (fun wx (m : Mod (fun _ => False) w wx) => refNormal_any r s1 b1 wx hs1 (h1.mod0 m) (g1.mod0 m))
  have HRA := Lib.hid (fun wx (m : Mod (fun _ => False) w wx) => refAlike_any r q s1 b1 s2 b2 wx hs1 hs2 (h1.mod0 m) (g1.mod0 m) (h2.mod0 m) (g2.mod0 m))
  have HRB := Lib.hid (fun wx (m : Mod (fun _ => False) w wx) => refAlike_any q r s2 b2 s1 b1 wx hs2 hs1 (h2.mod0 m) (g2.mod0 m) (h1.mod0 m) (g1.mod0 m))
  obtain ⟨a1, c1, rfl, _⟩ := h1
  obtain ⟨a2, c2, rfl, _⟩ := h2
  obtain ⟨d1, k1, xs1, rfl, _⟩ := g1
  obtain ⟨d2, k2, xs2, rfl, _⟩ := g2
  unfold rmV at HRN HRA HRB HO1 HO2 ⊢
  have hb0 : BoxR (((w.alloc (.cells #[.string r.head.pred, .slice a1 r.head.terms.length c1, .slice d1 r.body.length k1] 43)).alloc (.cells #[.string q.head.pred, .slice a2 q.head.terms.length c2, .slice d2 q.body.length k2] 43))) w.heap.size #[.string r.head.pred, .slice a1 r.head.terms.length c1, .slice d1 r.body.length k1] := heap_two1 w _ _
  have hb1 : BoxR (((w.alloc (.cells #[.string r.head.pred, .slice a1 r.head.terms.length c1, .slice d1 r.body.length k1] 43)).alloc (.cells #[.string q.head.pred, .slice a2 q.head.terms.length c2, .slice d2 q.body.length k2] 43))) (w.heap.size + 1) #[.string q.head.pred, .slice a2 q.head.terms.length c2, .slice d2 q.body.length k2] := heap_two2 w _ _
  have hz : (((w.alloc (.cells #[.string r.head.pred, .slice a1 r.head.terms.length c1, .slice d1 r.body.length k1] 43)).alloc (.cells #[.string q.head.pred, .slice a2 q.head.terms.length c2, .slice d2 q.body.length k2] 43))).heap.size = w.heap.size + 2 := by simp
  have HW := Lib.hid (And.intro hm0 (And.intro hb0 (And.intro hb1 hz)))
  clear hs1 hs2 hpw hm0 hb0 hb1 hz
  go_enter Tryd.func4, Tryd.ntmps4
  go_wp2_with fail
  obtain ⟨w0, hw0⟩ : ∃ w0, w0 = (((w.alloc (.cells #[.string r.head.pred, .slice a1 r.head.terms.length c1, .slice d1 r.body.length k1] 43)).alloc (.cells #[.string q.head.pred, .slice a2 q.head.terms.length c2, .slice d2 q.body.length k2] 43))) := ⟨_, rfl⟩
  obtain ⟨hm0, hb0, hb1, hz⟩ := HW.out
  rw [← hw0] at hm0 hb0 hb1 hz ⊢
  clear hw0 HW
  have HM0 := Lib.hid hm0; have HB0 := Lib.hid hb0; have HB1 := Lib.hid hb1
  clear hm0 hb0 hb1
  go_cut [5, 6] (fun v5 v6 wx => ∃ g5 g6 gh ch gb cb gh' ch' gb' cb' n1 n2 n3 n4 xs ys, v5 = .pointer (some ⟨g5, 0, none⟩) ∧ v6 = .pointer (some ⟨g6, 0, none⟩) ∧ Hid (Mod (fun _ => False) w0 wx) ∧ Hid (TwoOwn w wx r q g5 g6 gh ch gb cb gh' ch' gb' cb' n1 n2 n3 n4 xs ys))
  case first =>
    have HZ := Lib.hid hz
    clear hz
    obtain ⟨x0, x1, x2⟩ := BoxR.c3 HB0.out
    obtain ⟨y0, y1, y2⟩ := BoxR.c3 HB1.out
    go_region_held3 (fun w' => (w'.cell? ⟨w.heap.size, 0, none⟩ = some (.string r.head.pred) ∧ w'.cell? ⟨w.heap.size, 1, none⟩ = some (.slice a1 r.head.terms.length c1) ∧ w'.cell? ⟨w.heap.size, 2, none⟩ = some (.slice d1 r.body.length k1)) ∧ (w'.cell? ⟨w.heap.size + 1, 0, none⟩ = some (.string q.head.pred) ∧ w'.cell? ⟨w.heap.size + 1, 1, none⟩ = some (.slice a2 q.head.terms.length c2) ∧ w'.cell? ⟨w.heap.size + 1, 2, none⟩ = some (.slice d2 q.body.length k2))) (go_keep)
      (first
        | (go_at_call 19
           have hq0 := hq1
           clear hq0
           refine (HO2.out _ (HM0.out.trans (by first | with_reducible exact hq1 | with_reducible exact hq1.alloc _ | with_reducible exact (hq1.alloc _).alloc _))).mono ?_
           rintro e wo2 ⟨gh', ch', gb', cb', ys, rfl, hY2, hN2⟩
           have hq2 : Mod (fun _ => False) w0 wo2 := Mod.trans (by first | with_reducible exact hq1 | with_reducible exact hq1.alloc _ | with_reducible exact (hq1.alloc _).alloc _) hN2
           have hq12 : Mod (fun _ => False) wo1 wo2 := Mod.trans (by first | with_reducible exact Mod.refl (fun _ => False) wo1 | with_reducible exact (Mod.refl (fun _ => False) wo1).alloc _ | with_reducible exact ((Mod.refl (fun _ => False) wo1).alloc _).alloc _) hN2
           try (have ba2 := ba.mod hq12 id
                obtain ⟨⟨da0, da1, da2⟩, ga0, ga1, ga2⟩ := ba2.z6
                have ha0 : ∀ o : Obj, (wo2.alloc o).cell? ⟨w0.heap.size, 0, none⟩ = some (.string ⟨#[]⟩) := fun o => (BoxR.z6 (BoxR.mod ba2 ((Mod.refl (fun _ => False) wo2).alloc o) id)).1.1
                have ha1 : ∀ o : Obj, (wo2.alloc o).cell? ⟨w0.heap.size, 1, none⟩ = some (.slice none 0 0) := fun o => (BoxR.z6 (BoxR.mod ba2 ((Mod.refl (fun _ => False) wo2).alloc o) id)).1.2.1
                have ha2 : ∀ o : Obj, (wo2.alloc o).cell? ⟨w0.heap.size, 2, none⟩ = some (.slice none 0 0) := fun o => (BoxR.z6 (BoxR.mod ba2 ((Mod.refl (fun _ => False) wo2).alloc o) id)).1.2.2
                have ha3 : ∀ o : Obj, (wo2.alloc o).frozen? ⟨w0.heap.size, 0, none⟩ = false := fun o => (BoxR.z6 (BoxR.mod ba2 ((Mod.refl (fun _ => False) wo2).alloc o) id)).2.1
                have ha4 : ∀ o : Obj, (wo2.alloc o).frozen? ⟨w0.heap.size, 1, none⟩ = false := fun o => (BoxR.z6 (BoxR.mod ba2 ((Mod.refl (fun _ => False) wo2).alloc o) id)).2.2.1
                have ha5 : ∀ o : Obj, (wo2.alloc o).frozen? ⟨w0.heap.size, 2, none⟩ = false := fun o => (BoxR.z6 (BoxR.mod ba2 ((Mod.refl (fun _ => False) wo2).alloc o) id)).2.2.2)
           try (have bb2 := bb.mod hq12 id
                obtain ⟨⟨db0, db1, db2⟩, gb0, gb1, gb2⟩ := bb2.z6
                have hb0 : ∀ o : Obj, (wo2.alloc o).cell? ⟨w0.heap.size + 1, 0, none⟩ = some (.string ⟨#[]⟩) := fun o => (BoxR.z6 (BoxR.mod bb2 ((Mod.refl (fun _ => False) wo2).alloc o) id)).1.1
                have hb1 : ∀ o : Obj, (wo2.alloc o).cell? ⟨w0.heap.size + 1, 1, none⟩ = some (.slice none 0 0) := fun o => (BoxR.z6 (BoxR.mod bb2 ((Mod.refl (fun _ => False) wo2).alloc o) id)).1.2.1
                have hb2 : ∀ o : Obj, (wo2.alloc o).cell? ⟨w0.heap.size + 1, 2, none⟩ = some (.slice none 0 0) := fun o => (BoxR.z6 (BoxR.mod bb2 ((Mod.refl (fun _ => False) wo2).alloc o) id)).1.2.2
                have hb3 : ∀ o : Obj, (wo2.alloc o).frozen? ⟨w0.heap.size + 1, 0, none⟩ = false := fun o => (BoxR.z6 (BoxR.mod bb2 ((Mod.refl (fun _ => False) wo2).alloc o) id)).2.1
                have hb4 : ∀ o : Obj, (wo2.alloc o).frozen? ⟨w0.heap.size + 1, 1, none⟩ = false := fun o => (BoxR.z6 (BoxR.mod bb2 ((Mod.refl (fun _ => False) wo2).alloc o) id)).2.2.1
                have hb5 : ∀ o : Obj, (wo2.alloc o).frozen? ⟨w0.heap.size + 1, 2, none⟩ = false := fun o => (BoxR.z6 (BoxR.mod bb2 ((Mod.refl (fun _ => False) wo2).alloc o) id)).2.2.2)
           try (have bc : BoxR wo2 wo1.heap.size ZR := BoxR.mod (box_one wo1) hN2 id
                obtain ⟨⟨dc0, dc1, dc2⟩, gc0, gc1, gc2⟩ := bc.z6
                have hc0 : ∀ o : Obj, (wo2.alloc o).cell? ⟨wo1.heap.size, 0, none⟩ = some (.string ⟨#[]⟩) := fun o => (BoxR.z6 (BoxR.mod bc ((Mod.refl (fun _ => False) wo2).alloc o) id)).1.1
                have hc1 : ∀ o : Obj, (wo2.alloc o).cell? ⟨wo1.heap.size, 1, none⟩ = some (.slice none 0 0) := fun o => (BoxR.z6 (BoxR.mod bc ((Mod.refl (fun _ => False) wo2).alloc o) id)).1.2.1
                have hc2 : ∀ o : Obj, (wo2.alloc o).cell? ⟨wo1.heap.size, 2, none⟩ = some (.slice none 0 0) := fun o => (BoxR.z6 (BoxR.mod bc ((Mod.refl (fun _ => False) wo2).alloc o) id)).1.2.2
                have hc3 : ∀ o : Obj, (wo2.alloc o).frozen? ⟨wo1.heap.size, 0, none⟩ = false := fun o => (BoxR.z6 (BoxR.mod bc ((Mod.refl (fun _ => False) wo2).alloc o) id)).2.1
                have hc4 : ∀ o : Obj, (wo2.alloc o).frozen? ⟨wo1.heap.size, 1, none⟩ = false := fun o => (BoxR.z6 (BoxR.mod bc ((Mod.refl (fun _ => False) wo2).alloc o) id)).2.2.1
                have hc5 : ∀ o : Obj, (wo2.alloc o).frozen? ⟨wo1.heap.size, 2, none⟩ = false := fun o => (BoxR.z6 (BoxR.mod bc ((Mod.refl (fun _ => False) wo2).alloc o) id)).2.2.2)
           try (have bc : BoxR wo2 wo1.heap.size ZR := BoxR.mod (box_two1 wo1) hN2 id
                have bd : BoxR wo2 (wo1.heap.size + 1) ZR := BoxR.mod (box_two2 wo1) hN2 id
                obtain ⟨⟨dc0, dc1, dc2⟩, gc0, gc1, gc2⟩ := bc.z6
                have hc0 : ∀ o : Obj, (wo2.alloc o).cell? ⟨wo1.heap.size, 0, none⟩ = some (.string ⟨#[]⟩) := fun o => (BoxR.z6 (BoxR.mod bc ((Mod.refl (fun _ => False) wo2).alloc o) id)).1.1
                have hc1 : ∀ o : Obj, (wo2.alloc o).cell? ⟨wo1.heap.size, 1, none⟩ = some (.slice none 0 0) := fun o => (BoxR.z6 (BoxR.mod bc ((Mod.refl (fun _ => False) wo2).alloc o) id)).1.2.1
                have hc2 : ∀ o : Obj, (wo2.alloc o).cell? ⟨wo1.heap.size, 2, none⟩ = some (.slice none 0 0) := fun o => (BoxR.z6 (BoxR.mod bc ((Mod.refl (fun _ => False) wo2).alloc o) id)).1.2.2
                have hc3 : ∀ o : Obj, (wo2.alloc o).frozen? ⟨wo1.heap.size, 0, none⟩ = false := fun o => (BoxR.z6 (BoxR.mod bc ((Mod.refl (fun _ => False) wo2).alloc o) id)).2.1
                have hc4 : ∀ o : Obj, (wo2.alloc o).frozen? ⟨wo1.heap.size, 1, none⟩ = false := fun o => (BoxR.z6 (BoxR.mod bc ((Mod.refl (fun _ => False) wo2).alloc o) id)).2.2.1
                have hc5 : ∀ o : Obj, (wo2.alloc o).frozen? ⟨wo1.heap.size, 2, none⟩ = false := fun o => (BoxR.z6 (BoxR.mod bc ((Mod.refl (fun _ => False) wo2).alloc o) id)).2.2.2
                obtain ⟨⟨dd0, dd1, dd2⟩, gd0, gd1, gd2⟩ := bd.z6
                have hd0 : ∀ o : Obj, (wo2.alloc o).cell? ⟨wo1.heap.size + 1, 0, none⟩ = some (.string ⟨#[]⟩) := fun o => (BoxR.z6 (BoxR.mod bd ((Mod.refl (fun _ => False) wo2).alloc o) id)).1.1
                have hd1 : ∀ o : Obj, (wo2.alloc o).cell? ⟨wo1.heap.size + 1, 1, none⟩ = some (.slice none 0 0) := fun o => (BoxR.z6 (BoxR.mod bd ((Mod.refl (fun _ => False) wo2).alloc o) id)).1.2.1
                have hd2 : ∀ o : Obj, (wo2.alloc o).cell? ⟨wo1.heap.size + 1, 2, none⟩ = some (.slice none 0 0) := fun o => (BoxR.z6 (BoxR.mod bd ((Mod.refl (fun _ => False) wo2).alloc o) id)).1.2.2
                have hd3 : ∀ o : Obj, (wo2.alloc o).frozen? ⟨wo1.heap.size + 1, 0, none⟩ = false := fun o => (BoxR.z6 (BoxR.mod bd ((Mod.refl (fun _ => False) wo2).alloc o) id)).2.1
                have hd4 : ∀ o : Obj, (wo2.alloc o).frozen? ⟨wo1.heap.size + 1, 1, none⟩ = false := fun o => (BoxR.z6 (BoxR.mod bd ((Mod.refl (fun _ => False) wo2).alloc o) id)).2.2.1
                have hd5 : ∀ o : Obj, (wo2.alloc o).frozen? ⟨wo1.heap.size + 1, 2, none⟩ = false := fun o => (BoxR.z6 (BoxR.mod bd ((Mod.refl (fun _ => False) wo2).alloc o) id)).2.2.2)
           have z0 := HZ.out
           have z1 := hq1.size
           have z2 := hq12.size
           try have z3 := ba.lt
           try have z4 := bb.lt
           try have z5 := bc.lt
           try have z6 := bd.lt
           try (have e02 : ¬ w.heap.size = w0.heap.size := by omega
                have f02 : ¬ w0.heap.size = w.heap.size := by omega)
           try (have e03 : ¬ w.heap.size = w0.heap.size + 1 := by omega
                have f03 : ¬ w0.heap.size + 1 = w.heap.size := by omega)
           try (have e04 : ¬ w.heap.size = wo1.heap.size := by omega
                have f04 : ¬ wo1.heap.size = w.heap.size := by omega)
           try (have e05 : ¬ w.heap.size = wo1.heap.size + 1 := by omega
                have f05 : ¬ wo1.heap.size + 1 = w.heap.size := by omega)
           try (have e06 : ¬ w.heap.size = wo2.heap.size := by omega
                have f06 : ¬ wo2.heap.size = w.heap.size := by omega)
           try (have e07 : ¬ w.heap.size = wo2.heap.size + 1 := by omega
                have f07 : ¬ wo2.heap.size + 1 = w.heap.size := by omega)
           try (have e12 : ¬ w.heap.size + 1 = w0.heap.size := by omega
                have f12 : ¬ w0.heap.size = w.heap.size + 1 := by omega)
           try (have e13 : ¬ w.heap.size + 1 = w0.heap.size + 1 := by omega
                have f13 : ¬ w0.heap.size + 1 = w.heap.size + 1 := by omega)
           try (have e14 : ¬ w.heap.size + 1 = wo1.heap.size := by omega
                have f14 : ¬ wo1.heap.size = w.heap.size + 1 := by omega)
           try (have e15 : ¬ w.heap.size + 1 = wo1.heap.size + 1 := by omega
                have f15 : ¬ wo1.heap.size + 1 = w.heap.size + 1 := by omega)
           try (have e16 : ¬ w.heap.size + 1 = wo2.heap.size := by omega
                have f16 : ¬ wo2.heap.size = w.heap.size + 1 := by omega)
           try (have e17 : ¬ w.heap.size + 1 = wo2.heap.size + 1 := by omega
                have f17 : ¬ wo2.heap.size + 1 = w.heap.size + 1 := by omega)
           try (have e24 : ¬ w0.heap.size = wo1.heap.size := by omega
                have f24 : ¬ wo1.heap.size = w0.heap.size := by omega)
           try (have e25 : ¬ w0.heap.size = wo1.heap.size + 1 := by omega
                have f25 : ¬ wo1.heap.size + 1 = w0.heap.size := by omega)
           try (have e26 : ¬ w0.heap.size = wo2.heap.size := by omega
                have f26 : ¬ wo2.heap.size = w0.heap.size := by omega)
           try (have e27 : ¬ w0.heap.size = wo2.heap.size + 1 := by omega
                have f27 : ¬ wo2.heap.size + 1 = w0.heap.size := by omega)
           try (have e34 : ¬ w0.heap.size + 1 = wo1.heap.size := by omega
                have f34 : ¬ wo1.heap.size = w0.heap.size + 1 := by omega)
           try (have e35 : ¬ w0.heap.size + 1 = wo1.heap.size + 1 := by omega
                have f35 : ¬ wo1.heap.size + 1 = w0.heap.size + 1 := by omega)
           try (have e36 : ¬ w0.heap.size + 1 = wo2.heap.size := by omega
                have f36 : ¬ wo2.heap.size = w0.heap.size + 1 := by omega)
           try (have e37 : ¬ w0.heap.size + 1 = wo2.heap.size + 1 := by omega
                have f37 : ¬ wo2.heap.size + 1 = w0.heap.size + 1 := by omega)
           try (have e46 : ¬ wo1.heap.size = wo2.heap.size := by omega
                have f46 : ¬ wo2.heap.size = wo1.heap.size := by omega)
           try (have e47 : ¬ wo1.heap.size = wo2.heap.size + 1 := by omega
                have f47 : ¬ wo2.heap.size + 1 = wo1.heap.size := by omega)
           try (have e56 : ¬ wo1.heap.size + 1 = wo2.heap.size := by omega
                have f56 : ¬ wo2.heap.size = wo1.heap.size + 1 := by omega)
           try (have e57 : ¬ wo1.heap.size + 1 = wo2.heap.size + 1 := by omega
                have f57 : ¬ wo2.heap.size + 1 = wo1.heap.size + 1 := by omega)
           clear z0 z1 z2
           try clear z3
           try clear z4
           try clear z5
           try clear z6
           obtain ⟨x0', x1', x2'⟩ := BoxR.c3 (HB0.out.mod hq2 id)
           obtain ⟨y0', y1', y2'⟩ := BoxR.c3 (HB1.out.mod hq2 id))
        | (go_at_call 19
           refine (HO1.out _ (HM0.out.trans (by first | with_reducible exact (Mod.refl (fun _ => False) w0).drew | with_reducible exact ((Mod.refl (fun _ => False) w0).alloc _).drew | with_reducible exact (((Mod.refl (fun _ => False) w0).alloc _).alloc _).drew))).mono ?_
           rintro e wo1 ⟨gh, ch, gb, cb, xs, rfl, hY1, hN1⟩
           have hq1 : Mod (fun _ => False) w0 wo1 := Mod.trans (by first | with_reducible exact (Mod.refl (fun _ => False) w0).drew | with_reducible exact ((Mod.refl (fun _ => False) w0).alloc _).drew | with_reducible exact (((Mod.refl (fun _ => False) w0).alloc _).alloc _).drew) hN1
           try (have ba : BoxR wo1 w0.heap.size ZR := BoxR.mod (w := (w0.alloc (.cells #[.string ⟨#[]⟩, .slice none 0 0, .slice none 0 0] 43)).drew) (show BoxR ((w0.alloc (.cells #[.string ⟨#[]⟩, .slice none 0 0, .slice none 0 0] 43)).drew) w0.heap.size ZR from box_one w0) hN1 id
                obtain ⟨⟨ca0, ca1, ca2⟩, fa0, fa1, fa2⟩ := ba.z6)
           try (have ba : BoxR wo1 w0.heap.size ZR := BoxR.mod (w := ((w0.alloc (.cells #[.string ⟨#[]⟩, .slice none 0 0, .slice none 0 0] 43)).alloc (.cells #[.string ⟨#[]⟩, .slice none 0 0, .slice none 0 0] 43)).drew) (show BoxR (((w0.alloc (.cells #[.string ⟨#[]⟩, .slice none 0 0, .slice none 0 0] 43)).alloc (.cells #[.string ⟨#[]⟩, .slice none 0 0, .slice none 0 0] 43)).drew) w0.heap.size ZR from box_two1 w0) hN1 id
                have bb : BoxR wo1 (w0.heap.size + 1) ZR := BoxR.mod (w := ((w0.alloc (.cells #[.string ⟨#[]⟩, .slice none 0 0, .slice none 0 0] 43)).alloc (.cells #[.string ⟨#[]⟩, .slice none 0 0, .slice none 0 0] 43)).drew) (show BoxR (((w0.alloc (.cells #[.string ⟨#[]⟩, .slice none 0 0, .slice none 0 0] 43)).alloc (.cells #[.string ⟨#[]⟩, .slice none 0 0, .slice none 0 0] 43)).drew) (w0.heap.size + 1) ZR from box_two2 w0) hN1 id
                obtain ⟨⟨ca0, ca1, ca2⟩, fa0, fa1, fa2⟩ := ba.z6
                obtain ⟨⟨cb0, cb1, cb2⟩, fb0, fb1, fb2⟩ := bb.z6)
           obtain ⟨x0', x1', x2'⟩ := BoxR.c3 (HB0.out.mod hq1 id)
           obtain ⟨y0', y1', y2'⟩ := BoxR.c3 (HB1.out.mod hq1 id)))
    all_goals (go_wp2_with fail; go_meet)
    all_goals
      have s0 := HZ.out
      have s1 := hN1.size
      have s2 := hN2.size
      try simp at s1
      try simp at s2
      try have z3 := ba.lt
      try have z4 := bb.lt
      try have z5 := bc.lt
      try have z6 := bd.lt
      refine two_gen HM0.out hY1 hY2 hq12 hq2 HZ.out ?_ ?_ ?_ ?_ ?_ ?_

      all_goals first
        | omega
        | with_reducible exact shape1 wo2 _ _ _ _ _ _
        | with_reducible exact shape1p wo2 _ _ _ _ _ _
        | with_reducible exact shape3 (by assumption)
        | ((with_reducible refine shape2 (wb := wo2) ?_ ?_ ?_ (Mod.refl _ _)) <;> first | assumption | omega)
        | ((with_reducible refine shape2 (wb := wo2.alloc _) (BoxR.mod (w := wo2) ?_ ((Mod.refl (fun _ => False) wo2).alloc _) id) (box_one wo2) ?_ ((Mod.refl _ wo2).alloc _)) <;> first | assumption | omega)
        | skip
      all_goals (try simp)
      all_goals (try omega)
  case rest =>
    obtain ⟨g5, g6, gh, ch, gb, cb, gh', ch', gb', cb', n1, n2, n3, n4, xs, ys, rfl, rfl, hM, hT⟩ := hcut
    clear HO1 HO2
    have hmw := HM0.out.trans hM.out
    have HN := Lib.hid (Normal_any r _ _ wc HS1.out hT.out.o1.head.at hT.out.o1.lsAt (HPW.out.mod0 hmw))
    unfold rmV at HN
    obtain ⟨x0, x1, x2⟩ := BoxR.c3 hT.out.b5
    clear hmw
    go_wp2_with fail
    refine HN.out.mono ?_
    rintro e w2 ⟨sn, bn, rfl, hR, hM2⟩
    have HR := Lib.hid hR
    obtain ⟨⟨e1, f1, rfl, _⟩, l1, j1, zs1, rfl, _⟩ := hR
    unfold rmV
    clear HN x0 x1 x2
    obtain ⟨B7, hB7⟩ : ∃ B7, B7 = w2.heap.size := ⟨_, rfl⟩
    have hma : Mod (fun _ => False) w0 (w2.alloc (.cells #[.string (nmR0 r).head.pred, .slice e1 (nmR0 r).head.terms.length f1, .slice l1 (nmR0 r).body.length j1] 43)) := (hM.out.trans hM2).alloc _
    have h7 : BoxR (w2.alloc (.cells #[.string (nmR0 r).head.pred, .slice e1 (nmR0 r).head.terms.length f1, .slice l1 (nmR0 r).body.length j1] 43)) B7 #[.string (nmR0 r).head.pred, .slice e1 (nmR0 r).head.terms.length f1, .slice l1 (nmR0 r).body.length j1] := by rw [hB7]; exact heap_alloc_new w2 _
    have HRN2 := Lib.hid (HRN.out _ (HM0.out.trans hma))
    obtain ⟨x0, x1, x2⟩ := BoxR.c3 (HB0.out.mod hma id)
    have HMA := Lib.hid hma; have H7 := Lib.hid h7; have HM2 := Lib.hid (hM2.alloc (.cells #[.string (nmR0 r).head.pred, .slice e1 (nmR0 r).head.terms.length f1, .slice l1 (nmR0 r).body.length j1] 43))
    have hsz : wc.heap.size ≤ B7 := by rw [hB7]; exact hM2.size
    have HLO := Lib.hid (show wc.heap.size ≤ (w2.alloc (.cells #[.string (nmR0 r).head.pred, .slice e1 (nmR0 r).head.terms.length f1, .slice l1 (nmR0 r).body.length j1] 43)).heap.size by have := hM2.size; simp; omega)
    have H7E := Lib.hid hB7
    clear hma h7 HRN hM2 hB7
    go_wp2_with fail
    rw [← H7E.out]
    refine HRN2.out.mono ?_
    rintro e w3 ⟨sm, bm, rfl, hR, hM3⟩
    have HR' := Lib.hid hR
    obtain ⟨⟨e2, f2, rfl, _⟩, l2, j2, zs2, rfl, _⟩ := hR
    unfold rmV
    clear HRN2 x0 x1 x2
    obtain ⟨B9, hB9⟩ : ∃ B9, B9 = w3.heap.size := ⟨_, rfl⟩
    obtain ⟨w4, hw4⟩ : ∃ w4, w4 = w3.alloc (.cells #[.string (nmR0 r).head.pred, .slice e2 (nmR0 r).head.terms.length f2, .slice l2 (nmR0 r).body.length j2] 43) := ⟨_, rfl⟩
    have h9 : BoxR w4 B9 #[.string (nmR0 r).head.pred, .slice e2 (nmR0 r).head.terms.length f2, .slice l2 (nmR0 r).body.length j2] := by rw [hB9, hw4]; exact heap_alloc_new w3 _
    have hm34 : Mod (fun _ => False) w3 w4 := by rw [hw4]; exact (Mod.refl _ w3).alloc _
    have HR2 := Lib.hid (((HR.out.step (Mod.refl (fun _ => False) _) (fun _ _ _ => id)).step ((Mod.refl (fun _ => False) w2).alloc (.cells #[.string (nmR0 r).head.pred, .slice e1 (nmR0 r).head.terms.length f1, .slice l1 (nmR0 r).body.length j1] 43)) (fun _ _ _ => id)).step (hM3.trans hm34) (fun _ _ _ => id))
    have HR3 := Lib.hid (HR'.out.step hm34 (fun _ _ _ => id))
    have hc4 := HM2.out.trans (hM3.trans hm34)
    have HT4 := Lib.hid hc4
    have H74 := Lib.hid (H7.out.mod (hM3.trans hm34) id)
    have H94 := Lib.hid h9
    have HM4 := Lib.hid (HMA.out.trans (hM3.trans hm34))
    have hsz9 : B7 < B9 := by rw [hB9]; exact Nat.lt_of_lt_of_le H7.out.lt hM3.size
    have H9E := Lib.hid (And.intro hB9 hw4)
    clear h9 hm34 hc4 HR HR' HM2 HMA H7 hM3 hB9 hw4 H7E
    have HSS : Hid (∀ wx, Mod (fun _ => False) w4 wx → (wx.cell? ⟨w.heap.size, 0, none⟩ = some (.string r.head.pred) ∧ wx.cell? ⟨w.heap.size, 1, none⟩ = some (.slice a1 r.head.terms.length c1) ∧ wx.cell? ⟨w.heap.size, 2, none⟩ = some (.slice d1 r.body.length k1)) ∧ (wx.cell? ⟨w.heap.size + 1, 0, none⟩ = some (.string q.head.pred) ∧ wx.cell? ⟨w.heap.size + 1, 1, none⟩ = some (.slice a2 q.head.terms.length c2) ∧ wx.cell? ⟨w.heap.size + 1, 2, none⟩ = some (.slice d2 q.body.length k2)) ∧ (wx.cell? ⟨g5, 0, none⟩ = some (.string r.head.pred) ∧ wx.cell? ⟨g5, 1, none⟩ = some (.slice (some ⟨gh, 0, none⟩) r.head.terms.length ch) ∧ wx.cell? ⟨g5, 2, none⟩ = some (.slice (some ⟨gb, 0, none⟩) r.body.length cb)) ∧ (wx.cell? ⟨g6, 0, none⟩ = some (.string q.head.pred) ∧ wx.cell? ⟨g6, 1, none⟩ = some (.slice (some ⟨gh', 0, none⟩) q.head.terms.length ch') ∧ wx.cell? ⟨g6, 2, none⟩ = some (.slice (some ⟨gb', 0, none⟩) q.body.length cb')) ∧ (wx.cell? ⟨B7, 0, none⟩ = some (.string (nmR0 r).head.pred) ∧ wx.cell? ⟨B7, 1, none⟩ = some (.slice e1 (nmR0 r).head.terms.length f1) ∧ wx.cell? ⟨B7, 2, none⟩ = some (.slice l1 (nmR0 r).body.length j1)) ∧ (wx.cell? ⟨B9, 0, none⟩ = some (.string (nmR0 r).head.pred) ∧ wx.cell? ⟨B9, 1, none⟩ = some (.slice e2 (nmR0 r).head.terms.length f2) ∧ wx.cell? ⟨B9, 2, none⟩ = some (.slice l2 (nmR0 r).body.length j2))) := Lib.hid (fun wx m =>
      ⟨BoxR.c3 ((HB0.out.mod HM4.out id).mod m id), BoxR.c3 ((HB1.out.mod HM4.out id).mod m id), BoxR.c3 ((hT.out.b5.mod HT4.out id).mod m id), BoxR.c3 ((hT.out.b6.mod HT4.out id).mod m id), BoxR.c3 (H74.out.mod m id), BoxR.c3 (H94.out.mod m id)⟩)
    go_wp2_with fail
    rw [← H9E.out.2, ← H9E.out.1]
    clear H9E
    have HNUM := Lib.hid (num_any (mayRm r))
    have HSM := Lib.hid (fun wx (m : Mod (fun _ => False) w4 wx) => Same_any (nmR0 r) (nmR0 r) _ _ _ _ wx (HR2.out.1.at.mod0 m) (HR3.out.1.at.mod0 m) (HR2.out.2.at.mod0 m) (HR3.out.2.at.mod0 m) (nmR0_few HS1.out).1 (nmR0_few HS1.out).1 (nmR0_few HS1.out).2.1 (nmR0_few HS1.out).2.1 (nmR0_few HS1.out).2.2 (nmR0_few HS1.out).2.2)
    have HAA := Lib.hid (fun wx (m : Mod (fun _ => False) w4 wx) => Alike_any r q _ _ _ _ wx HS1.out HS2.out ((hT.out.o1.head.at.mod0 HT4.out).mod0 m) ((hT.out.o1.lsAt.mod0 HT4.out).mod0 m) ((hT.out.o2.head.at.mod0 HT4.out).mod0 m) ((hT.out.o2.lsAt.mod0 HT4.out).mod0 m) (HPW.out.mod0 ((HM0.out.trans HM4.out).trans m)))
    have HAB := Lib.hid (fun wx (m : Mod (fun _ => False) w4 wx) => Alike_any q r _ _ _ _ wx HS2.out HS1.out ((hT.out.o2.head.at.mod0 HT4.out).mod0 m) ((hT.out.o2.lsAt.mod0 HT4.out).mod0 m) ((hT.out.o1.head.at.mod0 HT4.out).mod0 m) ((hT.out.o1.lsAt.mod0 HT4.out).mod0 m) (HPW.out.mod0 ((HM0.out.trans HM4.out).trans m)))
    have HAC := Lib.hid (fun wx (m : Mod (fun _ => False) w4 wx) => Alike_any r r _ _ _ _ wx HS1.out HS1.out ((hT.out.o1.head.at.mod0 HT4.out).mod0 m) ((hT.out.o1.lsAt.mod0 HT4.out).mod0 m) ((hT.out.o1.head.at.mod0 HT4.out).mod0 m) ((hT.out.o1.lsAt.mod0 HT4.out).mod0 m) (HPW.out.mod0 ((HM0.out.trans HM4.out).trans m)))
    unfold rmV at HSM HAA HAB HAC
    have HRA4 := Lib.hid (fun wx (m : Mod (fun _ => False) w4 wx) => HRA.out wx ((HM0.out.trans HM4.out).trans m))
    have HRB4 := Lib.hid (fun wx (m : Mod (fun _ => False) w4 wx) => HRB.out wx ((HM0.out.trans HM4.out).trans m))
    clear HRA HRB
    obtain ⟨m, hm⟩ : ∃ m, m = mayRm r := ⟨_, rfl⟩
    rw [← hm] at HNUM ⊢
    have HMR := Lib.hid hm; clear hm
    refine wp_region_ord (fun w' => (w'.cell? ⟨w.heap.size, 0, none⟩ = some (.string r.head.pred) ∧ w'.cell? ⟨w.heap.size, 1, none⟩ = some (.slice a1 r.head.terms.length c1) ∧ w'.cell? ⟨w.heap.size, 2, none⟩ = some (.slice d1 r.body.length k1)) ∧ (w'.cell? ⟨w.heap.size + 1, 0, none⟩ = some (.string q.head.pred) ∧ w'.cell? ⟨w.heap.size + 1, 1, none⟩ = some (.slice a2 q.head.terms.length c2) ∧ w'.cell? ⟨w.heap.size + 1, 2, none⟩ = some (.slice d2 q.body.length k2)) ∧ (w'.cell? ⟨g5, 0, none⟩ = some (.string r.head.pred) ∧ w'.cell? ⟨g5, 1, none⟩ = some (.slice (some ⟨gh, 0, none⟩) r.head.terms.length ch) ∧ w'.cell? ⟨g5, 2, none⟩ = some (.slice (some ⟨gb, 0, none⟩) r.body.length cb)) ∧ (w'.cell? ⟨g6, 0, none⟩ = some (.string q.head.pred) ∧ w'.cell? ⟨g6, 1, none⟩ = some (.slice (some ⟨gh', 0, none⟩) q.head.terms.length ch') ∧ w'.cell? ⟨g6, 2, none⟩ = some (.slice (some ⟨gb', 0, none⟩) q.body.length cb')) ∧ (w'.cell? ⟨B7, 0, none⟩ = some (.string (nmR0 r).head.pred) ∧ w'.cell? ⟨B7, 1, none⟩ = some (.slice e1 (nmR0 r).head.terms.length f1) ∧ w'.cell? ⟨B7, 2, none⟩ = some (.slice l1 (nmR0 r).body.length j1)) ∧ (w'.cell? ⟨B9, 0, none⟩ = some (.string (nmR0 r).head.pred) ∧ w'.cell? ⟨B9, 1, none⟩ = some (.slice e2 (nmR0 r).head.terms.length f2) ∧ w'.cell? ⟨B9, 2, none⟩ = some (.slice l2 (nmR0 r).body.length j2))) [(0, 0), (0, 2), (3, 1), (0, 3), (0, 4), (1, 5), (1, 6), (3, 7), (0, 8), (0, 9), (0, 10), (1, 11), (1, 12), (1, 14), (1, 15), (2, 13), (3, 16), (0, 17), (0, 18), (0, 19), (1, 20), (1, 21), (1, 23), (1, 24), (2, 22), (3, 25), (0, 26), (0, 27), (0, 28), (1, 29), (1, 30), (3, 31), (0, 32), (0, 33), (0, 34), (0, 35), (0, 36), (0, 37)] (by kernel_rfl) (by kernel_rfl) ?_
    have hc : Mod (fun _ => False) w4 w4.drew := (Mod.refl _ w4).drew
    have HC := Lib.hid hc; clear hc
    go_wp2_with (first
      | (refine ord_pure rfl rfl rfl (fun K hK => ?_); go_big_quiet_op; refine hK _ ?_; clear hK K)
                        | (refine ord_skip rfl rfl ?_; simp only [Act.put, List.setIfInBounds_toArray, List.set_cons_zero, List.set_cons_succ])
                        | (refine ord_held rfl rfl rfl (HSS.out _ HC.out) (fun K hK => ?_); apply Exists.intro; refine ⟨fun w' hs => ?_, hK _ ?_⟩; (revert hs; dsimp only; (try simp only [and_imp]); intros; go_simp; rfl); clear hK K)
                        | (refine ord_keep rfl rfl (HSS.out _ HC.out) (fun K hK => ?_))
                        | (refine ord_drop rfl rfl (fun K hK => ?_))
                        | (refine ord_nil ?_))
    refine (HNUM.out _).mono ?_
    rintro e w5 ⟨rfl, rfl⟩
    go_wp2_with (first
      | (refine ord_pure rfl rfl rfl (fun K hK => ?_); go_big_quiet_op; refine hK _ ?_; clear hK K)
                        | (refine ord_skip rfl rfl ?_; simp only [Act.put, List.setIfInBounds_toArray, List.set_cons_zero, List.set_cons_succ])
                        | (refine ord_held rfl rfl rfl (HSS.out _ HC.out) (fun K hK => ?_); apply Exists.intro; refine ⟨fun w' hs => ?_, hK _ ?_⟩; (revert hs; dsimp only; (try simp only [and_imp]); intros; go_simp; rfl); clear hK K)
                        | (refine ord_keep rfl rfl (HSS.out _ HC.out) (fun K hK => ?_))
                        | (refine ord_drop rfl rfl (fun K hK => ?_))
                        | (refine ord_nil ?_))
    refine (HSM.out _ HC.out).mono ?_
    rintro e w5 ⟨t, rfl, ht, hM5⟩
    obtain rfl : t = true := ht.2 rfl
    have HC5 := Lib.hid (HC.out.trans hM5)
    clear ht hM5 HC HNUM
    go_wp2_with (first
      | (refine ord_pure rfl rfl rfl (fun K hK => ?_); go_big_quiet_op; refine hK _ ?_; clear hK K)
                        | (refine ord_skip rfl rfl ?_; simp only [Act.put, List.setIfInBounds_toArray, List.set_cons_zero, List.set_cons_succ])
                        | (refine ord_held rfl rfl rfl (HSS.out _ HC5.out) (fun K hK => ?_); apply Exists.intro; refine ⟨fun w' hs => ?_, hK _ ?_⟩; (revert hs; dsimp only; (try simp only [and_imp]); intros; go_simp; rfl); clear hK K)
                        | (refine ord_keep rfl rfl (HSS.out _ HC5.out) (fun K hK => ?_))
                        | (refine ord_drop rfl rfl (fun K hK => ?_))
                        | (refine ord_nil ?_))
    refine (HAA.out _ HC5.out).mono ?_
    rintro e w6 ⟨t, rfl, ht, hM6⟩
    have HC6 := Lib.hid (HC5.out.trans hM6)
    refine hK _ _ (HSS.out _ HC6.out) ?_; clear hK K
    clear hM6 HC5
    go_wp2_with (first
      | (refine ord_pure rfl rfl rfl (fun K hK => ?_); go_big_quiet_op; refine hK _ ?_; clear hK K)
                        | (refine ord_skip rfl rfl ?_; simp only [Act.put, List.setIfInBounds_toArray, List.set_cons_zero, List.set_cons_succ])
                        | (refine ord_held rfl rfl rfl (HSS.out _ HC6.out) (fun K hK => ?_); apply Exists.intro; refine ⟨fun w' hs => ?_, hK _ ?_⟩; (revert hs; dsimp only; (try simp only [and_imp]); intros; go_simp; rfl); clear hK K)
                        | (refine ord_keep rfl rfl (HSS.out _ HC6.out) (fun K hK => ?_))
                        | (refine ord_drop rfl rfl (fun K hK => ?_))
                        | (refine ord_nil ?_))
    refine (HRA4.out _ HC6.out).mono ?_
    rintro e w7 ⟨u, rfl, hu, hM7⟩
    obtain rfl : t = u := by
      have hh := ht.trans hu.symm
      cases t <;> cases u <;> simp at hh ⊢
    have HC7 := Lib.hid (HC6.out.trans hM7)
    clear ht hu hM7 HC6 HAA HRA4
    go_wp2_with (first
      | (refine ord_pure rfl rfl rfl (fun K hK => ?_); go_big_quiet_op; refine hK _ ?_; clear hK K)
                        | (refine ord_skip rfl rfl ?_; simp only [Act.put, List.setIfInBounds_toArray, List.set_cons_zero, List.set_cons_succ])
                        | (refine ord_held rfl rfl rfl (HSS.out _ HC7.out) (fun K hK => ?_); apply Exists.intro; refine ⟨fun w' hs => ?_, hK _ ?_⟩; (revert hs; dsimp only; (try simp only [and_imp]); intros; go_simp; rfl); clear hK K)
                        | (refine ord_keep rfl rfl (HSS.out _ HC7.out) (fun K hK => ?_))
                        | (refine ord_drop rfl rfl (fun K hK => ?_))
                        | (refine ord_nil ?_))
    refine (HAB.out _ HC7.out).mono ?_
    rintro e w8 ⟨t2, rfl, ht, hM8⟩
    have HC8 := Lib.hid (HC7.out.trans hM8)
    refine hK _ _ (HSS.out _ HC8.out) ?_; clear hK K
    clear hM8 HC7
    go_wp2_with (first
      | (refine ord_pure rfl rfl rfl (fun K hK => ?_); go_big_quiet_op; refine hK _ ?_; clear hK K)
                        | (refine ord_skip rfl rfl ?_; simp only [Act.put, List.setIfInBounds_toArray, List.set_cons_zero, List.set_cons_succ])
                        | (refine ord_held rfl rfl rfl (HSS.out _ HC8.out) (fun K hK => ?_); apply Exists.intro; refine ⟨fun w' hs => ?_, hK _ ?_⟩; (revert hs; dsimp only; (try simp only [and_imp]); intros; go_simp; rfl); clear hK K)
                        | (refine ord_keep rfl rfl (HSS.out _ HC8.out) (fun K hK => ?_))
                        | (refine ord_drop rfl rfl (fun K hK => ?_))
                        | (refine ord_nil ?_))
    refine (HRB4.out _ HC8.out).mono ?_
    rintro e w9 ⟨u, rfl, hu, hM9⟩
    obtain rfl : t2 = u := by
      have hh := ht.trans hu.symm
      cases t2 <;> cases u <;> simp at hh ⊢
    have HC9 := Lib.hid (HC8.out.trans hM9)
    clear ht hu hM9 HC8 HAB HRB4
    go_wp2_with (first
      | (refine ord_pure rfl rfl rfl (fun K hK => ?_); go_big_quiet_op; refine hK _ ?_; clear hK K)
                        | (refine ord_skip rfl rfl ?_; simp only [Act.put, List.setIfInBounds_toArray, List.set_cons_zero, List.set_cons_succ])
                        | (refine ord_held rfl rfl rfl (HSS.out _ HC9.out) (fun K hK => ?_); apply Exists.intro; refine ⟨fun w' hs => ?_, hK _ ?_⟩; (revert hs; dsimp only; (try simp only [and_imp]); intros; go_simp; rfl); clear hK K)
                        | (refine ord_keep rfl rfl (HSS.out _ HC9.out) (fun K hK => ?_))
                        | (refine ord_drop rfl rfl (fun K hK => ?_))
                        | (refine ord_nil ?_))
    refine (HAC.out _ HC9.out).mono ?_
    rintro e w10 ⟨t3, rfl, ht, hM10⟩
    have hbb : (!t3 && m == 0) = false := by
      cases t3 with
      | true => rfl
      | false =>
        have : m ≠ 0 := fun h0 => absurd (ht.2 ⟨by rw [← HMR.out]; exact h0, by rw [← HMR.out]; exact h0, rfl⟩) (by simp)
        simpa using this
    have HC10 := Lib.hid (HC9.out.trans hM10)
    clear ht hM10 HC9 HAC
    have HSS10 := Lib.hid (HSS.out _ HC10.out)
    have hO1 := (hT.out.o1.mod HT4.out (fun _ _ => id)).mod HC10.out (fun _ _ => id)
    have hO2 := (hT.out.o2.mod HT4.out (fun _ _ => id)).mod HC10.out (fun _ _ => id)
    have HK1 := Lib.hid (kept_true (fun b => n1 ≤ b ∧ b < n2) r _ _ gh ch gb cb xs w10 hO1 (HT1.out.mod0 ((HM0.out.trans HM4.out).trans HC10.out)) (HL1.out.mod0 ((HM0.out.trans HM4.out).trans HC10.out)) HS1.out.1.2.1 HS1.out.2.1 (fun l hl => (HS1.out.2.2 l hl).1.2.1))
    have HK2 := Lib.hid (fun wx (m : Mod (fun b => n1 ≤ b ∧ b < n2) w10 wx) (hx1 : TsAt wx (.slice a2 q.head.terms.length c2) q.head.terms) (hx2 : LsAt wx (.slice d2 q.body.length k2) q.body) => kept_true (fun b => n3 ≤ b ∧ b < n4) q _ _ gh' ch' gb' cb' ys wx (hO2.mod m (fun b hb hn => by have := hT.out.le; omega)) hx1 hx2 HS2.out.1.2.1 HS2.out.2.1 (fun l hl => (HS2.out.2.2 l hl).1.2.1))
    have HMW := Lib.hid ((HM0.out.trans HM4.out).trans HC10.out)
    have HRA' := Lib.hid (And.intro (HR2.out.step HC10.out (fun _ _ _ => id)) (HR3.out.step HC10.out (fun _ _ _ => id)))
    have HP7 := Lib.hid (And.intro (H74.out.mod HC10.out id) (H94.out.mod HC10.out id))
    have HP0 := Lib.hid (And.intro ((HB0.out.mod HM4.out id).mod HC10.out id) ((HB1.out.mod HM4.out id).mod HC10.out id))
    have HP6 := Lib.hid ((hT.out.b6.mod HT4.out id).mod HC10.out id)
    clear hO1 hO2 HSS HSM HC10 HT4 HM4 HB0 HB1 H74 H94 HR2 HR3
    unfold rmV at HK1 HK2
    cases t3
    all_goals
      simp only [Bool.not_true, Bool.not_false, Bool.false_and, Bool.true_and] at hbb
      obtain ⟨⟨x0, x1, x2⟩, _, ⟨u0, u1, u2⟩, _⟩ := HSS10.out
      go_wp2_with (first
        | (refine ord_pure rfl rfl rfl (fun K hK => ?_); go_big_quiet_op; refine hK _ ?_; clear hK K)
                        | (refine ord_skip rfl rfl ?_; simp only [Act.put, List.setIfInBounds_toArray, List.set_cons_zero, List.set_cons_succ])
                        | (refine ord_held rfl rfl rfl (trivial) (fun K hK => ?_); apply Exists.intro; refine ⟨fun w' hs => ?_, hK _ ?_⟩; (revert hs; dsimp only; (try simp only [and_imp]); intros; go_simp; rfl); clear hK K)
                        | (refine ord_keep rfl rfl (trivial) (fun K hK => ?_))
                        | (refine ord_drop rfl rfl (fun K hK => ?_))
                        | (refine ord_nil ?_))
      refine HK1.out.mono ?_
      rintro e w11 ⟨rfl, hM11⟩
      have hn1 := hT.out.lo
      have hmw11 : Mod (fun _ => False) w w11 := HMW.out.step hM11 (fun i hi h => by omega)
      obtain ⟨y0, y1, y2⟩ := BoxR.c3 (HP0.out.2.mod hM11 (by omega))
      obtain ⟨v0, v1, v2⟩ := BoxR.c3 (HP6.out.mod hM11 (fun h => by have := hT.out.f6; omega))
      have HK2' := Lib.hid (HK2.out w11 hM11 (HT2.out.mod0 hmw11) (HL2.out.mod0 hmw11))
      have HM11 := Lib.hid hM11; have HW11 := Lib.hid hmw11
      clear x0 x1 x2 u0 u1 u2 hM11 hmw11 HK1 HK2
      go_wp2_with fail
      refine HK2'.out.mono ?_
      rintro e w12 ⟨rfl, hM12⟩
      have hle := hT.out.le
      have hhi := hT.out.hi
      have hmw12 : Mod (fun _ => False) w w12 := HW11.out.step hM12 (fun i hi h => by omega)
      have hB7lo : n2 ≤ B7 ∧ n4 ≤ B7 := ⟨by omega, by omega⟩
      have hlo := HLO.out
      obtain ⟨p0, p1, p2⟩ := BoxR.c3 ((HP7.out.1.mod HM11.out (fun h => by omega)).mod hM12 (fun h => by omega))
      obtain ⟨z0, z1, z2⟩ := BoxR.c3 ((HP7.out.2.mod HM11.out (fun h => by omega)).mod hM12 (fun h => by omega))
      have hRa := (HRA'.out.1.step HM11.out (fun x hx hl h => by omega)).step hM12 (fun x hx hl h => by omega)
      have hRb := (HRA'.out.2.step HM11.out (fun x hx hl h => by omega)).step hM12 (fun x hx hl h => by omega)
      have HSF := Lib.hid (Same_any (nmR0 r) (nmR0 r) _ _ _ _ w12 hRa.1.at hRb.1.at hRa.2.at hRb.2.at (nmR0_few HS1.out).1 (nmR0_few HS1.out).1 (nmR0_few HS1.out).2.1 (nmR0_few HS1.out).2.1 (nmR0_few HS1.out).2.2 (nmR0_few HS1.out).2.2)
      unfold rmV at HSF
      have HW12 := Lib.hid hmw12
      clear y0 y1 y2 v0 v1 v2 hM12 hmw12 HK2' hRa hRb hle hhi hB7lo hlo hn1
      go_wp2_with fail
      refine HSF.out.mono ?_
      rintro e w13 ⟨t, rfl, ht, hM13⟩
      obtain rfl : t = true := ht.2 rfl
      have HW13 := Lib.hid (HW12.out.trans hM13)
      clear ht hM13 p0 p1 p2 z0 z1 z2 HSF
      go_wp2_with fail
      go_ret
      exact ⟨rfl, HW13.out⟩
end Go.Proofs.YtidgpcjnfkhjoaaDoor
