/-
  The reader's source of tokens, one by one.
-/
import Derived.Test.YteecbbnpgmceiaaGreatDoorParLR
import Derived.Test.YteecbbnpgmceiaaGreatDoorEcG
namespace Go.Proofs.YteecbbnpgmceiaaGreatDoor
open Go Go.RowKit Go.Mine
set_option linter.unusedVariables false
set_option maxHeartbeats 4000000
set_option maxRecDepth 100000

def itC (x : Tok × Nat) : List Value := [.int .i64 x.1.kind, .string x.1.text, .int .i64 x.1.at_, .int .i64 x.2]
def itsC (l : List (Tok × Nat)) : List Value := l.flatMap itC
theorem itC_length (x : Tok × Nat) : (itC x).length = 4 := rfl
def tokV (t : Tok) : Value := .agg #[.int .i64 t.kind, .string t.text, .int .i64 t.at_]
def itAt (l : List (Tok × Nat)) (N n : Nat) : Tok × Nat := l.getD n (⟨0, emptyB, N⟩, 0)
theorem rd_cell4 {w : World} {a : Option Addr} {l : List (Tok × Nat)} (h : Rd w a (itsC l)) {i : Nat} (hi : i < l.length) :
    ∃ b o, a = some ⟨b, o, none⟩ ∧ w.cell? ⟨b, o + i * 4, none⟩ = some (.int .i64 l[i].1.kind) ∧ w.cell? ⟨b, o + i * 4 + 1, none⟩ = some (.string l[i].1.text) ∧ w.cell? ⟨b, o + i * 4 + 2, none⟩ = some (.int .i64 l[i].1.at_) ∧ w.cell? ⟨b, o + i * 4 + 3, none⟩ = some (.int .i64 l[i].2) := by
  have g : ∀ j u, j < 4 → (itC l[i])[j]? = some u → ∃ b o, a = some ⟨b, o, none⟩ ∧ w.cell? ⟨b, o + i * 4 + j, none⟩ = some u := fun j u hj hu => by
    obtain ⟨b, o, e, q⟩ := h (i * 4 + j) u (by rw [show itsC l = l.flatMap itC from rfl, flat_get itC_length (List.getElem?_eq_getElem hi) hj]; exact hu)
    exact ⟨b, o, e, by rw [Nat.add_assoc]; exact q⟩
  obtain ⟨b, o, rfl, q0⟩ := g 0 _ (by omega) rfl
  refine ⟨b, o, rfl, q0, ?_, ?_, ?_⟩
  · obtain ⟨_, _, e, q⟩ := g 1 _ (by omega) rfl; cases e; exact q
  · obtain ⟨_, _, e, q⟩ := g 2 _ (by omega) rfl; cases e; exact q
  · obtain ⟨_, _, e, q⟩ := g 3 _ (by omega) rfl; cases e; exact q
/-- the boxes that next reads: the place, the list, the text -/
structure SrcAt (w : World) (la : Option Addr) (lc : Nat) (l : List (Tok × Nat)) (N n bn bl bt : Nat) : Prop where
  its : Rd w la (itsC l)
  place : w.heap[bn]? = some (.cells #[.int .i64 n] 3 (0, 0))
  list : w.heap[bl]? = some (.cells #[.slice la l.length lc] 180 (0, 0))
  text : ∃ ta tc, w.heap[bt]? = some (.cells #[.slice ta N tc] 34 (0, 0))
theorem SrcAt.mod {S : Nat → Prop} {w w' : World} {la : Option Addr} {lc : Nat} {l : List (Tok × Nat)} {N n bn bl bt : Nat} (h : SrcAt w la lc l N n bn bl bt) (m : Mod S w w') (h1 : ¬ S bn) (h2 : ¬ S bl) (h3 : ¬ S bt) (h4 : ∀ b, blk la = some b → ¬ S b) : SrcAt w' la lc l N n bn bl bt := by
  obtain ⟨hi, k1, k2, ta, tc, k3⟩ := h
  exact ⟨hi.mod m h4, m.at k1 h1, m.at k2 h2, ta, tc, m.at k3 h3⟩
theorem SrcAt.mod0 {w w' : World} {la : Option Addr} {lc : Nat} {l : List (Tok × Nat)} {N n bn bl bt : Nat} (h : SrcAt w la lc l N n bn bl bt) (m : Mod (fun _ => False) w w') : SrcAt w' la lc l N n bn bl bt := h.mod m id id id (fun _ _ => id)

theorem nextP_any (la : Option Addr) (lc : Nat) (l : List (Tok × Nat)) (N n bn bl bt : Nat) (w : World) (h : SrcAt w la lc l N n bn bl bt) (hb : bn ≠ bl ∧ bn ≠ bt ∧ blk la ≠ some bn) (hl : l.length < 2 ^ 30) (hn : n ≤ l.length) :
    Calls Tryz.prog 103 #[.pointer (some ⟨bn, 0, none⟩), .pointer (some ⟨bl, 0, none⟩), .pointer (some ⟨bt, 0, none⟩)] w fun e w' => ∃ b, e = .returned (.tuple #[tokV (itAt l N n).1, .int .i64 (itAt l N n).2, .bool b]) ∧ SrcAt w' la lc l N (min (n + 1) l.length) bn bl bt ∧ Mod (fun b => b = bn) w w' := by
  have HS := Lib.hid h
  obtain ⟨hi, h1, h2, ta, tc, h3⟩ := h
  have HI := Lib.hid hi
  have c1 := cell_at (j := 0) h1 rfl
  have c2 := cell_at (j := 0) h2 rfl
  have c3 := cell_at (j := 0) h3 rfl
  have m0 : Mod (fun _ => False) w (w.alloc (.cells #[.int .i64 0, .string ⟨#[]⟩, .int .i64 0] 185)) := (Mod.refl _ w).alloc _
  have d1 := m0.cell c1 id
  have d2 := m0.cell c2 id
  have d3 := m0.cell c3 id
  have k1 := m0.at h1 id
  have f1 : (w.alloc (.cells #[.int .i64 0, .string ⟨#[]⟩, .int .i64 0] 185)).frozen? ⟨bn, 0, none⟩ = false := frozen_at k1
  have hbl : bn < w.heap.size := (Array.getElem?_eq_some_iff.1 h1).1
  by_cases hlt : n < l.length
  · obtain ⟨b, o, rfl, x0, x1, x2, x3⟩ := rd_cell4 hi hlt
    have hbn0 : b ≠ w.heap.size := by have := World.block_lt_of_cell? w _ x0; simp only at this; omega
    have hbl0 : bl ≠ w.heap.size := by have := (Array.getElem?_eq_some_iff.1 h2).1; omega
    have hbt0 : bt ≠ w.heap.size := by have := (Array.getElem?_eq_some_iff.1 h3).1; omega
    have hbb : b ≠ bn := fun e => hb.2.2 (by rw [← e]; rfl)
    have hge : itAt l N n = l[n] := by unfold itAt; rw [List.getD_eq_getElem?_getD, List.getElem?_eq_getElem hlt]; rfl
    have hmin : min (n + 1) l.length = n + 1 := by omega
    rw [hge, hmin]
    generalize l[n] = t at *
    obtain ⟨⟨tk, tt, ta'⟩, te⟩ := t
    simp only at x0 x1 x2 x3
    have hms : Mod (fun b => b = bn) w ((w.setCell ⟨bn, 0, none⟩ (.int .i64 ((n : Int) + 1))).alloc (.cells #[.int .i64 0, .string ⟨#[]⟩, .int .i64 0] 185)) := ((Mod.refl (fun b => b = bn) w).setCell (p := ⟨bn, 0, none⟩) (fun _ => rfl) _).alloc _
    have hk := ((Mod.refl (fun _ => False) (w.setCell ⟨bn, 0, none⟩ (.int .i64 ((n : Int) + 1)))).alloc (.cells #[.int .i64 0, .string ⟨#[]⟩, .int .i64 0] 185)).at (heap_setCell_at (j := 0) (.int .i64 ((n : Int) + 1)) h1) id
    have y0 := hms.cell x0 hbb
    have y1 := hms.cell x1 hbb
    have y2 := hms.cell x2 hbb
    have y3 := hms.cell x3 hbb
    have e1 := cell_at (j := 0) (u := .int .i64 ((n : Int) + 1)) hk rfl
    have e2 := hms.cell c2 (fun e => hb.1 e.symm)
    have hS2 : SrcAt ((w.setCell ⟨bn, 0, none⟩ (.int .i64 ((n : Int) + 1))).alloc (.cells #[.int .i64 0, .string ⟨#[]⟩, .int .i64 0] 185)) (some ⟨b, o, none⟩) lc l N (n + 1) bn bl bt :=
      ⟨HI.out.mod hms (fun b' hb' e => by cases hb'; exact hbb e), hk, hms.at h2 (fun e => hb.1 e.symm), ta, tc, hms.at h3 (fun e => hb.2.1 e.symm)⟩
    have HH := Lib.hid (And.intro hS2 (And.intro hms (And.intro (And.intro e1 e2) (And.intro y0 (And.intro y1 (And.intro y2 y3))))))
    clear hS2 hms hk y0 y1 y2 y3 e1 e2 h1 h2 h3 hi k1 m0 c1 c2 c3 x0 x1 x2 x3 HS hge hmin
    go_enter Tryz.func103, Tryz.ntmps103
    go_wp2_with fail
    obtain ⟨hS2, hms, ⟨e1, e2⟩, y0, y1, y2, y3⟩ := HH.out
    obtain ⟨w1, hw1⟩ : ∃ w1, w1 = ((w.setCell ⟨bn, 0, none⟩ (.int .i64 ((n : Int) + 1))).alloc (.cells #[.int .i64 0, .string ⟨#[]⟩, .int .i64 0] 185)) := ⟨_, rfl⟩
    have hbx : w1.heap[w.heap.size]? = some (.cells #[.int .i64 0, .string ⟨#[]⟩, .int .i64 0] 185 (0, 0)) := by
      rw [hw1]
      have := heap_alloc_new (w.setCell ⟨bn, 0, none⟩ (.int .i64 ((n : Int) + 1))) (.cells #[.int .i64 0, .string ⟨#[]⟩, .int .i64 0] 185)
      simpa using this
    rw [← hw1] at hS2 hms e1 e2 y0 y1 y2 y3 ⊢
    have HS2 := Lib.hid hS2; have HMS := Lib.hid hms; have HBX := Lib.hid hbx
    have t0 := cell_at (j := 0) hbx rfl
    have t1 := cell_at (j := 1) hbx rfl
    have t2 := cell_at (j := 2) hbx rfl
    have q0 : w1.frozen? ⟨w.heap.size, 0, none⟩ = false := frozen_at hbx
    have q1 : w1.frozen? ⟨w.heap.size, 1, none⟩ = false := frozen_at hbx
    have q2 : w1.frozen? ⟨w.heap.size, 2, none⟩ = false := frozen_at hbx
    have hbnew : Hid (b ≠ w.heap.size) := hbn0
    have hblne : Hid (bl ≠ w.heap.size) := hbl0
    have hbtne : Hid (bt ≠ w.heap.size) := hbt0
    clear hw1 HH hS2 hms hbx d1 d2 d3 f1 hbn0 hbl0 hbt0
    refine wp_region_ord (fun w' => w'.cell? ⟨bl, 0, none⟩ = some (.slice (some ⟨b, o, none⟩) l.length lc) ∧ w'.cell? ⟨bn, 0, none⟩ = some (.int .i64 ((n : Int) + 1)) ∧ w'.cell? ⟨b, o + n * 4, none⟩ = some (.int .i64 tk) ∧ w'.cell? ⟨b, o + n * 4 + 1, none⟩ = some (.string tt) ∧ w'.cell? ⟨b, o + n * 4 + 2, none⟩ = some (.int .i64 ta') ∧ w'.cell? ⟨b, o + n * 4 + 3, none⟩ = some (.int .i64 te)) [(1, 0), (1, 1), (0, 2), (0, 3), (0, 4), (1, 5), (1, 6), (1, 7), (0, 8), (0, 9), (0, 10), (1, 11), (2, 12), (0, 13), (0, 14)] (by kernel_rfl) (by kernel_rfl) ?_
    go_wp2_with (first
      | (refine ord_pure rfl rfl rfl (fun K hK => ?_); go_big_quiet_op; refine hK _ ?_; clear hK K)
                                                                | (refine ord_skip rfl rfl ?_; simp only [Act.put, List.setIfInBounds_toArray, List.set_cons_zero, List.set_cons_succ])
                                                                | (refine ord_held rfl rfl rfl (⟨by simpa using e2, by simpa using e1, by simpa using y0, by simpa using y1, by simpa using y2, by simpa using y3⟩) (fun K hK => ?_); apply Exists.intro; refine ⟨fun w' hs => ?_, hK _ ?_⟩; (revert hs; dsimp only; (try simp only [and_imp]); intros; go_simp; rfl); clear hK K)
                                                                | (refine ord_keep rfl rfl (⟨by simpa using e2, by simpa using e1, by simpa using y0, by simpa using y1, by simpa using y2, by simpa using y3⟩) (fun K hK => ?_))
                                                                | (refine ord_drop rfl rfl (fun K hK => ?_))
                                                                | (refine ord_nil ?_))
    have hbne : b ≠ w.heap.size := hbnew.out
    have hm3 : Mod (fun b => b = w.heap.size) w1 (((w1.setCell ⟨w.heap.size, 0, none⟩ (.int .i64 tk)).setCell ⟨w.heap.size, 1, none⟩ (.string tt)).setCell ⟨w.heap.size, 2, none⟩ (.int .i64 ta')) :=
      (((Mod.refl (fun b => b = w.heap.size) w1).setCell (p := ⟨w.heap.size, 0, none⟩) (fun _ => rfl) _).setCell (p := ⟨w.heap.size, 1, none⟩) (fun _ => rfl) _).setCell (p := ⟨w.heap.size, 2, none⟩) (fun _ => rfl) _
    refine hK _ _ ⟨hm3.cell e2 hblne.out, hm3.cell e1 (by simp only; omega), hm3.cell y0 hbne, hm3.cell y1 hbne, hm3.cell y2 hbne, hm3.cell y3 hbne⟩ ?_
    clear hK K
    have hB3 := heap_setCell_at (j := 2) (.int .i64 ta') (heap_setCell_at (j := 1) (.string tt) (heap_setCell_at (j := 0) (.int .i64 tk) HBX.out))
    have hB4 : (((w1.setCell ⟨w.heap.size, 0, none⟩ (.int .i64 tk)).setCell ⟨w.heap.size, 1, none⟩ (.string tt)).setCell ⟨w.heap.size, 2, none⟩ (.int .i64 ta')).heap[w.heap.size]? = some (.cells #[.int .i64 tk, .string tt, .int .i64 ta'] 185 (0, 0)) := hB3
    have HW3 := Lib.hid (And.intro hm3 hB4)
    clear hB3 hB4 hm3
    obtain ⟨W3, hW3⟩ : ∃ W3, W3 = (((w1.setCell ⟨w.heap.size, 0, none⟩ (.int .i64 tk)).setCell ⟨w.heap.size, 1, none⟩ (.string tt)).setCell ⟨w.heap.size, 2, none⟩ (.int .i64 ta')) := ⟨_, rfl⟩
    rw [← hW3] at HW3 ⊢
    clear hW3 e1 e2 y0 y1 y2 y3 t0 t1 t2 q0 q1 q2
    have z0 := cell_at (j := 0) HW3.out.2 rfl
    have z1 := cell_at (j := 1) HW3.out.2 rfl
    have z2 := cell_at (j := 2) HW3.out.2 rfl
    go_wp2_with (first
      | (refine ord_pure rfl rfl rfl (fun K hK => ?_); go_big_quiet_op; refine hK _ ?_; clear hK K)
                                                                | (refine ord_skip rfl rfl ?_; simp only [Act.put, List.setIfInBounds_toArray, List.set_cons_zero, List.set_cons_succ])
                                                                | (refine ord_held rfl rfl rfl (trivial) (fun K hK => ?_); apply Exists.intro; refine ⟨fun w' hs => ?_, hK _ ?_⟩; (revert hs; dsimp only; (try simp only [and_imp]); intros; go_simp; rfl); clear hK K)
                                                                | (refine ord_keep rfl rfl (trivial) (fun K hK => ?_))
                                                                | (refine ord_drop rfl rfl (fun K hK => ?_))
                                                                | (refine ord_nil ?_))
    go_wp2_with fail
    refine bodyPost_ret (v := .tuple #[.agg #[.int .i64 tk, .string tt, .int .i64 ta'], .int .i64 te, .bool true]) (by simp [results, Tryz.results103, go_sem, z0, z1, z2]) rfl ?_
    have hbn : bn < w.heap.size := hbl
    have h1 := HW3.out.1.drew
    refine ⟨true, rfl, HS2.out.mod h1 (show ¬ bn = w.heap.size by omega) hblne.out hbtne.out (fun b' e => by cases e; exact hbne), HMS.out.step h1 (fun i hi e => by have e : i = w.heap.size := e; omega)⟩
  · have he : n = l.length := by omega
    subst he
    have hmin : min (l.length + 1) l.length = l.length := by omega
    have hge : itAt l N l.length = (⟨0, emptyB, N⟩, 0) := by unfold itAt; rw [List.getD_eq_getElem?_getD, List.getElem?_eq_none (Nat.le_refl _)]; rfl
    rw [hge, hmin]
    clear h1 h2 h3 hi k1 hge hmin c1 c2 c3
    go_enter Tryz.func103, Tryz.ntmps103
    go_wp2_with fail
    refine bodyPost_ret (v := .tuple #[.agg #[.int .i64 0, .string ⟨#[]⟩, .int .i64 N], .int .i64 0, .bool false]) (by simp [results, Tryz.results103, go_sem]) rfl ?_
    exact ⟨false, rfl, SrcAt.mod0 HS.out ((Mod.refl _ w).alloc _), (Mod.refl _ w).alloc _⟩
theorem nextR_any (la : Option Addr) (lc : Nat) (l : List (Tok × Nat)) (N n bn bl bt : Nat) (w : World) (h : SrcAt w la lc l N n bn bl bt) (hb : bn ≠ bl ∧ bn ≠ bt ∧ blk la ≠ some bn) (hl : l.length < 2 ^ 30) (hn : n ≤ l.length) :
    Calls Tryz.prog 112 #[.pointer (some ⟨bn, 0, none⟩), .pointer (some ⟨bl, 0, none⟩), .pointer (some ⟨bt, 0, none⟩)] w fun e w' => ∃ b, e = .returned (.tuple #[tokV (itAt l N n).1, .int .i64 (itAt l N n).2, .bool b]) ∧ SrcAt w' la lc l N (min (n + 1) l.length) bn bl bt ∧ Mod (fun b => b = bn) w w' := by
  have HS := Lib.hid h
  obtain ⟨hi, h1, h2, ta, tc, h3⟩ := h
  have HI := Lib.hid hi
  have c1 := cell_at (j := 0) h1 rfl
  have c2 := cell_at (j := 0) h2 rfl
  have c3 := cell_at (j := 0) h3 rfl
  have m0 : Mod (fun _ => False) w (w.alloc (.cells #[.int .i64 0, .string ⟨#[]⟩, .int .i64 0] 185)) := (Mod.refl _ w).alloc _
  have d1 := m0.cell c1 id
  have d2 := m0.cell c2 id
  have d3 := m0.cell c3 id
  have k1 := m0.at h1 id
  have f1 : (w.alloc (.cells #[.int .i64 0, .string ⟨#[]⟩, .int .i64 0] 185)).frozen? ⟨bn, 0, none⟩ = false := frozen_at k1
  have hbl : bn < w.heap.size := (Array.getElem?_eq_some_iff.1 h1).1
  by_cases hlt : n < l.length
  · obtain ⟨b, o, rfl, x0, x1, x2, x3⟩ := rd_cell4 hi hlt
    have hbn0 : b ≠ w.heap.size := by have := World.block_lt_of_cell? w _ x0; simp only at this; omega
    have hbl0 : bl ≠ w.heap.size := by have := (Array.getElem?_eq_some_iff.1 h2).1; omega
    have hbt0 : bt ≠ w.heap.size := by have := (Array.getElem?_eq_some_iff.1 h3).1; omega
    have hbb : b ≠ bn := fun e => hb.2.2 (by rw [← e]; rfl)
    have hge : itAt l N n = l[n] := by unfold itAt; rw [List.getD_eq_getElem?_getD, List.getElem?_eq_getElem hlt]; rfl
    have hmin : min (n + 1) l.length = n + 1 := by omega
    rw [hge, hmin]
    generalize l[n] = t at *
    obtain ⟨⟨tk, tt, ta'⟩, te⟩ := t
    simp only at x0 x1 x2 x3
    have hms : Mod (fun b => b = bn) w ((w.setCell ⟨bn, 0, none⟩ (.int .i64 ((n : Int) + 1))).alloc (.cells #[.int .i64 0, .string ⟨#[]⟩, .int .i64 0] 185)) := ((Mod.refl (fun b => b = bn) w).setCell (p := ⟨bn, 0, none⟩) (fun _ => rfl) _).alloc _
    have hk := ((Mod.refl (fun _ => False) (w.setCell ⟨bn, 0, none⟩ (.int .i64 ((n : Int) + 1)))).alloc (.cells #[.int .i64 0, .string ⟨#[]⟩, .int .i64 0] 185)).at (heap_setCell_at (j := 0) (.int .i64 ((n : Int) + 1)) h1) id
    have y0 := hms.cell x0 hbb
    have y1 := hms.cell x1 hbb
    have y2 := hms.cell x2 hbb
    have y3 := hms.cell x3 hbb
    have e1 := cell_at (j := 0) (u := .int .i64 ((n : Int) + 1)) hk rfl
    have e2 := hms.cell c2 (fun e => hb.1 e.symm)
    have hS2 : SrcAt ((w.setCell ⟨bn, 0, none⟩ (.int .i64 ((n : Int) + 1))).alloc (.cells #[.int .i64 0, .string ⟨#[]⟩, .int .i64 0] 185)) (some ⟨b, o, none⟩) lc l N (n + 1) bn bl bt :=
      ⟨HI.out.mod hms (fun b' hb' e => by cases hb'; exact hbb e), hk, hms.at h2 (fun e => hb.1 e.symm), ta, tc, hms.at h3 (fun e => hb.2.1 e.symm)⟩
    have HH := Lib.hid (And.intro hS2 (And.intro hms (And.intro (And.intro e1 e2) (And.intro y0 (And.intro y1 (And.intro y2 y3))))))
    clear hS2 hms hk y0 y1 y2 y3 e1 e2 h1 h2 h3 hi k1 m0 c1 c2 c3 x0 x1 x2 x3 HS hge hmin
    go_enter Tryz.func112, Tryz.ntmps112
    go_wp2_with fail
    obtain ⟨hS2, hms, ⟨e1, e2⟩, y0, y1, y2, y3⟩ := HH.out
    obtain ⟨w1, hw1⟩ : ∃ w1, w1 = ((w.setCell ⟨bn, 0, none⟩ (.int .i64 ((n : Int) + 1))).alloc (.cells #[.int .i64 0, .string ⟨#[]⟩, .int .i64 0] 185)) := ⟨_, rfl⟩
    have hbx : w1.heap[w.heap.size]? = some (.cells #[.int .i64 0, .string ⟨#[]⟩, .int .i64 0] 185 (0, 0)) := by
      rw [hw1]
      have := heap_alloc_new (w.setCell ⟨bn, 0, none⟩ (.int .i64 ((n : Int) + 1))) (.cells #[.int .i64 0, .string ⟨#[]⟩, .int .i64 0] 185)
      simpa using this
    rw [← hw1] at hS2 hms e1 e2 y0 y1 y2 y3 ⊢
    have HS2 := Lib.hid hS2; have HMS := Lib.hid hms; have HBX := Lib.hid hbx
    have t0 := cell_at (j := 0) hbx rfl
    have t1 := cell_at (j := 1) hbx rfl
    have t2 := cell_at (j := 2) hbx rfl
    have q0 : w1.frozen? ⟨w.heap.size, 0, none⟩ = false := frozen_at hbx
    have q1 : w1.frozen? ⟨w.heap.size, 1, none⟩ = false := frozen_at hbx
    have q2 : w1.frozen? ⟨w.heap.size, 2, none⟩ = false := frozen_at hbx
    have hbnew : Hid (b ≠ w.heap.size) := hbn0
    have hblne : Hid (bl ≠ w.heap.size) := hbl0
    have hbtne : Hid (bt ≠ w.heap.size) := hbt0
    clear hw1 HH hS2 hms hbx d1 d2 d3 f1 hbn0 hbl0 hbt0
    refine wp_region_ord (fun w' => w'.cell? ⟨bl, 0, none⟩ = some (.slice (some ⟨b, o, none⟩) l.length lc) ∧ w'.cell? ⟨bn, 0, none⟩ = some (.int .i64 ((n : Int) + 1)) ∧ w'.cell? ⟨b, o + n * 4, none⟩ = some (.int .i64 tk) ∧ w'.cell? ⟨b, o + n * 4 + 1, none⟩ = some (.string tt) ∧ w'.cell? ⟨b, o + n * 4 + 2, none⟩ = some (.int .i64 ta') ∧ w'.cell? ⟨b, o + n * 4 + 3, none⟩ = some (.int .i64 te)) [(1, 0), (1, 1), (0, 2), (0, 3), (0, 4), (1, 5), (1, 6), (1, 7), (0, 8), (0, 9), (0, 10), (1, 11), (2, 12), (0, 13), (0, 14)] (by kernel_rfl) (by kernel_rfl) ?_
    go_wp2_with (first
      | (refine ord_pure rfl rfl rfl (fun K hK => ?_); go_big_quiet_op; refine hK _ ?_; clear hK K)
                                                                | (refine ord_skip rfl rfl ?_; simp only [Act.put, List.setIfInBounds_toArray, List.set_cons_zero, List.set_cons_succ])
                                                                | (refine ord_held rfl rfl rfl (⟨by simpa using e2, by simpa using e1, by simpa using y0, by simpa using y1, by simpa using y2, by simpa using y3⟩) (fun K hK => ?_); apply Exists.intro; refine ⟨fun w' hs => ?_, hK _ ?_⟩; (revert hs; dsimp only; (try simp only [and_imp]); intros; go_simp; rfl); clear hK K)
                                                                | (refine ord_keep rfl rfl (⟨by simpa using e2, by simpa using e1, by simpa using y0, by simpa using y1, by simpa using y2, by simpa using y3⟩) (fun K hK => ?_))
                                                                | (refine ord_drop rfl rfl (fun K hK => ?_))
                                                                | (refine ord_nil ?_))
    have hbne : b ≠ w.heap.size := hbnew.out
    have hm3 : Mod (fun b => b = w.heap.size) w1 (((w1.setCell ⟨w.heap.size, 0, none⟩ (.int .i64 tk)).setCell ⟨w.heap.size, 1, none⟩ (.string tt)).setCell ⟨w.heap.size, 2, none⟩ (.int .i64 ta')) :=
      (((Mod.refl (fun b => b = w.heap.size) w1).setCell (p := ⟨w.heap.size, 0, none⟩) (fun _ => rfl) _).setCell (p := ⟨w.heap.size, 1, none⟩) (fun _ => rfl) _).setCell (p := ⟨w.heap.size, 2, none⟩) (fun _ => rfl) _
    refine hK _ _ ⟨hm3.cell e2 hblne.out, hm3.cell e1 (by simp only; omega), hm3.cell y0 hbne, hm3.cell y1 hbne, hm3.cell y2 hbne, hm3.cell y3 hbne⟩ ?_
    clear hK K
    have hB3 := heap_setCell_at (j := 2) (.int .i64 ta') (heap_setCell_at (j := 1) (.string tt) (heap_setCell_at (j := 0) (.int .i64 tk) HBX.out))
    have hB4 : (((w1.setCell ⟨w.heap.size, 0, none⟩ (.int .i64 tk)).setCell ⟨w.heap.size, 1, none⟩ (.string tt)).setCell ⟨w.heap.size, 2, none⟩ (.int .i64 ta')).heap[w.heap.size]? = some (.cells #[.int .i64 tk, .string tt, .int .i64 ta'] 185 (0, 0)) := hB3
    have HW3 := Lib.hid (And.intro hm3 hB4)
    clear hB3 hB4 hm3
    obtain ⟨W3, hW3⟩ : ∃ W3, W3 = (((w1.setCell ⟨w.heap.size, 0, none⟩ (.int .i64 tk)).setCell ⟨w.heap.size, 1, none⟩ (.string tt)).setCell ⟨w.heap.size, 2, none⟩ (.int .i64 ta')) := ⟨_, rfl⟩
    rw [← hW3] at HW3 ⊢
    clear hW3 e1 e2 y0 y1 y2 y3 t0 t1 t2 q0 q1 q2
    have z0 := cell_at (j := 0) HW3.out.2 rfl
    have z1 := cell_at (j := 1) HW3.out.2 rfl
    have z2 := cell_at (j := 2) HW3.out.2 rfl
    go_wp2_with (first
      | (refine ord_pure rfl rfl rfl (fun K hK => ?_); go_big_quiet_op; refine hK _ ?_; clear hK K)
                                                                | (refine ord_skip rfl rfl ?_; simp only [Act.put, List.setIfInBounds_toArray, List.set_cons_zero, List.set_cons_succ])
                                                                | (refine ord_held rfl rfl rfl (trivial) (fun K hK => ?_); apply Exists.intro; refine ⟨fun w' hs => ?_, hK _ ?_⟩; (revert hs; dsimp only; (try simp only [and_imp]); intros; go_simp; rfl); clear hK K)
                                                                | (refine ord_keep rfl rfl (trivial) (fun K hK => ?_))
                                                                | (refine ord_drop rfl rfl (fun K hK => ?_))
                                                                | (refine ord_nil ?_))
    go_wp2_with fail
    refine bodyPost_ret (v := .tuple #[.agg #[.int .i64 tk, .string tt, .int .i64 ta'], .int .i64 te, .bool true]) (by simp [results, Tryz.results112, go_sem, z0, z1, z2]) rfl ?_
    have hbn : bn < w.heap.size := hbl
    have h1 := HW3.out.1.drew
    refine ⟨true, rfl, HS2.out.mod h1 (show ¬ bn = w.heap.size by omega) hblne.out hbtne.out (fun b' e => by cases e; exact hbne), HMS.out.step h1 (fun i hi e => by have e : i = w.heap.size := e; omega)⟩
  · have he : n = l.length := by omega
    subst he
    have hmin : min (l.length + 1) l.length = l.length := by omega
    have hge : itAt l N l.length = (⟨0, emptyB, N⟩, 0) := by unfold itAt; rw [List.getD_eq_getElem?_getD, List.getElem?_eq_none (Nat.le_refl _)]; rfl
    rw [hge, hmin]
    clear h1 h2 h3 hi k1 hge hmin c1 c2 c3
    go_enter Tryz.func112, Tryz.ntmps112
    go_wp2_with fail
    refine bodyPost_ret (v := .tuple #[.agg #[.int .i64 0, .string ⟨#[]⟩, .int .i64 N], .int .i64 0, .bool false]) (by simp [results, Tryz.results112, go_sem]) rfl ?_
    exact ⟨false, rfl, SrcAt.mod0 HS.out ((Mod.refl _ w).alloc _), (Mod.refl _ w).alloc _⟩
theorem nextA_any (la : Option Addr) (lc : Nat) (l : List (Tok × Nat)) (N n bn bl bt : Nat) (w : World) (h : SrcAt w la lc l N n bn bl bt) (hb : bn ≠ bl ∧ bn ≠ bt ∧ blk la ≠ some bn) (hl : l.length < 2 ^ 30) (hn : n ≤ l.length) :
    Calls Tryz.prog 119 #[.pointer (some ⟨bn, 0, none⟩), .pointer (some ⟨bl, 0, none⟩), .pointer (some ⟨bt, 0, none⟩)] w fun e w' => ∃ b, e = .returned (.tuple #[tokV (itAt l N n).1, .int .i64 (itAt l N n).2, .bool b]) ∧ SrcAt w' la lc l N (min (n + 1) l.length) bn bl bt ∧ Mod (fun b => b = bn) w w' := by
  have HS := Lib.hid h
  obtain ⟨hi, h1, h2, ta, tc, h3⟩ := h
  have HI := Lib.hid hi
  have c1 := cell_at (j := 0) h1 rfl
  have c2 := cell_at (j := 0) h2 rfl
  have c3 := cell_at (j := 0) h3 rfl
  have m0 : Mod (fun _ => False) w (w.alloc (.cells #[.int .i64 0, .string ⟨#[]⟩, .int .i64 0] 185)) := (Mod.refl _ w).alloc _
  have d1 := m0.cell c1 id
  have d2 := m0.cell c2 id
  have d3 := m0.cell c3 id
  have k1 := m0.at h1 id
  have f1 : (w.alloc (.cells #[.int .i64 0, .string ⟨#[]⟩, .int .i64 0] 185)).frozen? ⟨bn, 0, none⟩ = false := frozen_at k1
  have hbl : bn < w.heap.size := (Array.getElem?_eq_some_iff.1 h1).1
  by_cases hlt : n < l.length
  · obtain ⟨b, o, rfl, x0, x1, x2, x3⟩ := rd_cell4 hi hlt
    have hbn0 : b ≠ w.heap.size := by have := World.block_lt_of_cell? w _ x0; simp only at this; omega
    have hbl0 : bl ≠ w.heap.size := by have := (Array.getElem?_eq_some_iff.1 h2).1; omega
    have hbt0 : bt ≠ w.heap.size := by have := (Array.getElem?_eq_some_iff.1 h3).1; omega
    have hbb : b ≠ bn := fun e => hb.2.2 (by rw [← e]; rfl)
    have hge : itAt l N n = l[n] := by unfold itAt; rw [List.getD_eq_getElem?_getD, List.getElem?_eq_getElem hlt]; rfl
    have hmin : min (n + 1) l.length = n + 1 := by omega
    rw [hge, hmin]
    generalize l[n] = t at *
    obtain ⟨⟨tk, tt, ta'⟩, te⟩ := t
    simp only at x0 x1 x2 x3
    have hms : Mod (fun b => b = bn) w ((w.setCell ⟨bn, 0, none⟩ (.int .i64 ((n : Int) + 1))).alloc (.cells #[.int .i64 0, .string ⟨#[]⟩, .int .i64 0] 185)) := ((Mod.refl (fun b => b = bn) w).setCell (p := ⟨bn, 0, none⟩) (fun _ => rfl) _).alloc _
    have hk := ((Mod.refl (fun _ => False) (w.setCell ⟨bn, 0, none⟩ (.int .i64 ((n : Int) + 1)))).alloc (.cells #[.int .i64 0, .string ⟨#[]⟩, .int .i64 0] 185)).at (heap_setCell_at (j := 0) (.int .i64 ((n : Int) + 1)) h1) id
    have y0 := hms.cell x0 hbb
    have y1 := hms.cell x1 hbb
    have y2 := hms.cell x2 hbb
    have y3 := hms.cell x3 hbb
    have e1 := cell_at (j := 0) (u := .int .i64 ((n : Int) + 1)) hk rfl
    have e2 := hms.cell c2 (fun e => hb.1 e.symm)
    have hS2 : SrcAt ((w.setCell ⟨bn, 0, none⟩ (.int .i64 ((n : Int) + 1))).alloc (.cells #[.int .i64 0, .string ⟨#[]⟩, .int .i64 0] 185)) (some ⟨b, o, none⟩) lc l N (n + 1) bn bl bt :=
      ⟨HI.out.mod hms (fun b' hb' e => by cases hb'; exact hbb e), hk, hms.at h2 (fun e => hb.1 e.symm), ta, tc, hms.at h3 (fun e => hb.2.1 e.symm)⟩
    have HH := Lib.hid (And.intro hS2 (And.intro hms (And.intro (And.intro e1 e2) (And.intro y0 (And.intro y1 (And.intro y2 y3))))))
    clear hS2 hms hk y0 y1 y2 y3 e1 e2 h1 h2 h3 hi k1 m0 c1 c2 c3 x0 x1 x2 x3 HS hge hmin
    go_enter Tryz.func119, Tryz.ntmps119
    go_wp2_with fail
    obtain ⟨hS2, hms, ⟨e1, e2⟩, y0, y1, y2, y3⟩ := HH.out
    obtain ⟨w1, hw1⟩ : ∃ w1, w1 = ((w.setCell ⟨bn, 0, none⟩ (.int .i64 ((n : Int) + 1))).alloc (.cells #[.int .i64 0, .string ⟨#[]⟩, .int .i64 0] 185)) := ⟨_, rfl⟩
    have hbx : w1.heap[w.heap.size]? = some (.cells #[.int .i64 0, .string ⟨#[]⟩, .int .i64 0] 185 (0, 0)) := by
      rw [hw1]
      have := heap_alloc_new (w.setCell ⟨bn, 0, none⟩ (.int .i64 ((n : Int) + 1))) (.cells #[.int .i64 0, .string ⟨#[]⟩, .int .i64 0] 185)
      simpa using this
    rw [← hw1] at hS2 hms e1 e2 y0 y1 y2 y3 ⊢
    have HS2 := Lib.hid hS2; have HMS := Lib.hid hms; have HBX := Lib.hid hbx
    have t0 := cell_at (j := 0) hbx rfl
    have t1 := cell_at (j := 1) hbx rfl
    have t2 := cell_at (j := 2) hbx rfl
    have q0 : w1.frozen? ⟨w.heap.size, 0, none⟩ = false := frozen_at hbx
    have q1 : w1.frozen? ⟨w.heap.size, 1, none⟩ = false := frozen_at hbx
    have q2 : w1.frozen? ⟨w.heap.size, 2, none⟩ = false := frozen_at hbx
    have hbnew : Hid (b ≠ w.heap.size) := hbn0
    have hblne : Hid (bl ≠ w.heap.size) := hbl0
    have hbtne : Hid (bt ≠ w.heap.size) := hbt0
    clear hw1 HH hS2 hms hbx d1 d2 d3 f1 hbn0 hbl0 hbt0
    refine wp_region_ord (fun w' => w'.cell? ⟨bl, 0, none⟩ = some (.slice (some ⟨b, o, none⟩) l.length lc) ∧ w'.cell? ⟨bn, 0, none⟩ = some (.int .i64 ((n : Int) + 1)) ∧ w'.cell? ⟨b, o + n * 4, none⟩ = some (.int .i64 tk) ∧ w'.cell? ⟨b, o + n * 4 + 1, none⟩ = some (.string tt) ∧ w'.cell? ⟨b, o + n * 4 + 2, none⟩ = some (.int .i64 ta') ∧ w'.cell? ⟨b, o + n * 4 + 3, none⟩ = some (.int .i64 te)) [(1, 0), (1, 1), (0, 2), (0, 3), (0, 4), (1, 5), (1, 6), (1, 7), (0, 8), (0, 9), (0, 10), (1, 11), (2, 12), (0, 13), (0, 14)] (by kernel_rfl) (by kernel_rfl) ?_
    go_wp2_with (first
      | (refine ord_pure rfl rfl rfl (fun K hK => ?_); go_big_quiet_op; refine hK _ ?_; clear hK K)
                                                                | (refine ord_skip rfl rfl ?_; simp only [Act.put, List.setIfInBounds_toArray, List.set_cons_zero, List.set_cons_succ])
                                                                | (refine ord_held rfl rfl rfl (⟨by simpa using e2, by simpa using e1, by simpa using y0, by simpa using y1, by simpa using y2, by simpa using y3⟩) (fun K hK => ?_); apply Exists.intro; refine ⟨fun w' hs => ?_, hK _ ?_⟩; (revert hs; dsimp only; (try simp only [and_imp]); intros; go_simp; rfl); clear hK K)
                                                                | (refine ord_keep rfl rfl (⟨by simpa using e2, by simpa using e1, by simpa using y0, by simpa using y1, by simpa using y2, by simpa using y3⟩) (fun K hK => ?_))
                                                                | (refine ord_drop rfl rfl (fun K hK => ?_))
                                                                | (refine ord_nil ?_))
    have hbne : b ≠ w.heap.size := hbnew.out
    have hm3 : Mod (fun b => b = w.heap.size) w1 (((w1.setCell ⟨w.heap.size, 0, none⟩ (.int .i64 tk)).setCell ⟨w.heap.size, 1, none⟩ (.string tt)).setCell ⟨w.heap.size, 2, none⟩ (.int .i64 ta')) :=
      (((Mod.refl (fun b => b = w.heap.size) w1).setCell (p := ⟨w.heap.size, 0, none⟩) (fun _ => rfl) _).setCell (p := ⟨w.heap.size, 1, none⟩) (fun _ => rfl) _).setCell (p := ⟨w.heap.size, 2, none⟩) (fun _ => rfl) _
    refine hK _ _ ⟨hm3.cell e2 hblne.out, hm3.cell e1 (by simp only; omega), hm3.cell y0 hbne, hm3.cell y1 hbne, hm3.cell y2 hbne, hm3.cell y3 hbne⟩ ?_
    clear hK K
    have hB3 := heap_setCell_at (j := 2) (.int .i64 ta') (heap_setCell_at (j := 1) (.string tt) (heap_setCell_at (j := 0) (.int .i64 tk) HBX.out))
    have hB4 : (((w1.setCell ⟨w.heap.size, 0, none⟩ (.int .i64 tk)).setCell ⟨w.heap.size, 1, none⟩ (.string tt)).setCell ⟨w.heap.size, 2, none⟩ (.int .i64 ta')).heap[w.heap.size]? = some (.cells #[.int .i64 tk, .string tt, .int .i64 ta'] 185 (0, 0)) := hB3
    have HW3 := Lib.hid (And.intro hm3 hB4)
    clear hB3 hB4 hm3
    obtain ⟨W3, hW3⟩ : ∃ W3, W3 = (((w1.setCell ⟨w.heap.size, 0, none⟩ (.int .i64 tk)).setCell ⟨w.heap.size, 1, none⟩ (.string tt)).setCell ⟨w.heap.size, 2, none⟩ (.int .i64 ta')) := ⟨_, rfl⟩
    rw [← hW3] at HW3 ⊢
    clear hW3 e1 e2 y0 y1 y2 y3 t0 t1 t2 q0 q1 q2
    have z0 := cell_at (j := 0) HW3.out.2 rfl
    have z1 := cell_at (j := 1) HW3.out.2 rfl
    have z2 := cell_at (j := 2) HW3.out.2 rfl
    go_wp2_with (first
      | (refine ord_pure rfl rfl rfl (fun K hK => ?_); go_big_quiet_op; refine hK _ ?_; clear hK K)
                                                                | (refine ord_skip rfl rfl ?_; simp only [Act.put, List.setIfInBounds_toArray, List.set_cons_zero, List.set_cons_succ])
                                                                | (refine ord_held rfl rfl rfl (trivial) (fun K hK => ?_); apply Exists.intro; refine ⟨fun w' hs => ?_, hK _ ?_⟩; (revert hs; dsimp only; (try simp only [and_imp]); intros; go_simp; rfl); clear hK K)
                                                                | (refine ord_keep rfl rfl (trivial) (fun K hK => ?_))
                                                                | (refine ord_drop rfl rfl (fun K hK => ?_))
                                                                | (refine ord_nil ?_))
    go_wp2_with fail
    refine bodyPost_ret (v := .tuple #[.agg #[.int .i64 tk, .string tt, .int .i64 ta'], .int .i64 te, .bool true]) (by simp [results, Tryz.results119, go_sem, z0, z1, z2]) rfl ?_
    have hbn : bn < w.heap.size := hbl
    have h1 := HW3.out.1.drew
    refine ⟨true, rfl, HS2.out.mod h1 (show ¬ bn = w.heap.size by omega) hblne.out hbtne.out (fun b' e => by cases e; exact hbne), HMS.out.step h1 (fun i hi e => by have e : i = w.heap.size := e; omega)⟩
  · have he : n = l.length := by omega
    subst he
    have hmin : min (l.length + 1) l.length = l.length := by omega
    have hge : itAt l N l.length = (⟨0, emptyB, N⟩, 0) := by unfold itAt; rw [List.getD_eq_getElem?_getD, List.getElem?_eq_none (Nat.le_refl _)]; rfl
    rw [hge, hmin]
    clear h1 h2 h3 hi k1 hge hmin c1 c2 c3
    go_enter Tryz.func119, Tryz.ntmps119
    go_wp2_with fail
    refine bodyPost_ret (v := .tuple #[.agg #[.int .i64 0, .string ⟨#[]⟩, .int .i64 N], .int .i64 0, .bool false]) (by simp [results, Tryz.results119, go_sem]) rfl ?_
    exact ⟨false, rfl, SrcAt.mod0 HS.out ((Mod.refl _ w).alloc _), (Mod.refl _ w).alloc _⟩
end Go.Proofs.YteecbbnpgmceiaaGreatDoor
