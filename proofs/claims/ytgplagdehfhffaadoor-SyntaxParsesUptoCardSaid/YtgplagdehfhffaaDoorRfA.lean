/-
  The document's reader: its state, and its smallest steps: kind, wrong, take, room, ends.
-/
import Derived.Test.YtgplagdehfhffaaDoorPar3
import Derived.Test.YtgplagdehfhffaaDoorFound
import Derived.Deep.LoopGhost
import Derived.Test.YtgplagdehfhffaaDoorPar1
namespace Go.Proofs.YtgplagdehfhffaaDoor
open Go Go.RowKit Go.Mine
set_option linter.unusedVariables false
set_option maxHeartbeats 1000000
set_option maxRecDepth 100000

/-- the kind of a token as the document has it -/
def kindI (S : Toks) (k : Nat) : Int := if S.bad k = true then -1 else (S.tok k).kind
def rtoks (S : Toks) : List Value := toksC S.ts ++ [.int .i64 (if S.fault = 0 then 0 else -1), .string ⟨#[]⟩, .int .i64 S.fin]
structure REnv where
  b : Nat
  la : Option Addr
  lc : Nat
  S : Toks
structure REnv.Ok (R : REnv) : Prop where
  ne : blk R.la ≠ some R.b
  len : R.S.ts.length < 2 ^ 20
  size : ∀ k, (R.S.tok k).text.size < 2 ^ 30
  wf : R.S.Wf
def REnv.Ch (R : REnv) (x : Nat) : Prop := x = R.b
def REnv.cells (R : REnv) (i e at_ : Nat) (agg : Bool) : Array Value := #[.slice R.la (R.S.ts.length + 1) R.lc, .int .i64 R.S.fault, .int .i64 i, .int .i64 e, .int .i64 at_, .bool agg]
structure RBk (w : World) (R : REnv) (i e at_ : Nat) (agg : Bool) : Prop where
  ok : R.Ok
  rd : Rd w R.la (rtoks R.S)
  blk : w.heap[R.b]? = some (.cells (R.cells i e at_ agg) 98 (0, 0))
/-- the reader stands at token i, nothing is wrong yet -/
structure RSt (w : World) (R : REnv) (i : Nat) (agg : Bool) : Prop where
  bk : RBk w R i 0 0 agg
  le : i ≤ R.S.ts.length
/-- something is wrong -/
def RErr (w : World) (R : REnv) (x : Nat × Nat) : Prop := ∃ i agg, RBk w R i x.1 x.2 agg
section
variable {w w' : World} {R : REnv} {i e at_ : Nat} {agg : Bool}
theorem RBk.mod {T : Nat → Prop} (h : RBk w R i e at_ agg) (m : Mod T w w') (h1 : ¬ T R.b) (h2 : ∀ b, Mine.blk R.la = some b → ¬ T b) : RBk w' R i e at_ agg :=
  ⟨h.ok, h.rd.mod m h2, m.at h.blk h1⟩
theorem RSt.mod {T : Nat → Prop} (h : RSt w R i agg) (m : Mod T w w') (h1 : ¬ T R.b) (h2 : ∀ b, Mine.blk R.la = some b → ¬ T b) : RSt w' R i agg := ⟨h.bk.mod m h1 h2, h.le⟩
theorem RBk.mod0 (h : RBk w R i e at_ agg) (m : Mod (fun _ => False) w w') : RBk w' R i e at_ agg := h.mod m id (fun _ _ => id)
theorem RSt.mod0 (h : RSt w R i agg) (m : Mod (fun _ => False) w w') : RSt w' R i agg := h.mod m id (fun _ _ => id)
theorem RErr.mod0 {x : Nat × Nat} (h : RErr w R x) (m : Mod (fun _ => False) w w') : RErr w' R x := by
  obtain ⟨i, agg, h⟩ := h; exact ⟨i, agg, h.mod m id (fun _ _ => id)⟩
theorem RSt.lt (h : RSt w R i agg) : R.b < w.heap.size := (Array.getElem?_eq_some_iff.1 h.bk.blk).1
theorem RBk.set (h : RBk w R i e at_ agg) {j : Nat} {u : Value} {i' e' at' : Nat} {agg' : Bool} (hc : (R.cells i e at_ agg).setIfInBounds j u = R.cells i' e' at' agg') : RBk (w.setCell ⟨R.b, j, none⟩ u) R i' e' at' agg' ∧ Mod R.Ch w (w.setCell ⟨R.b, j, none⟩ u) := by
  have m : Mod R.Ch w (w.setCell ⟨R.b, j, none⟩ u) := (Mod.refl R.Ch w).setCell (p := ⟨R.b, j, none⟩) (fun _ => rfl) u
  refine ⟨⟨h.ok, h.rd.mod m (fun b hb e => h.ok.ne (by rw [hb, e])), ?_⟩, m⟩
  have := heap_setCell_at (j := j) u h.blk
  rw [hc] at this; exact this
theorem RBk.c0 (h : RBk w R i e at_ agg) : w.cell? ⟨R.b, 0, none⟩ = some (.slice R.la (R.S.ts.length + 1) R.lc) := cell_at h.blk rfl
theorem RBk.c1 (h : RBk w R i e at_ agg) : w.cell? ⟨R.b, 1, none⟩ = some (.int .i64 R.S.fault) := cell_at h.blk rfl
theorem RBk.c2 (h : RBk w R i e at_ agg) : w.cell? ⟨R.b, 2, none⟩ = some (.int .i64 i) := cell_at h.blk rfl
theorem RBk.c3 (h : RBk w R i e at_ agg) : w.cell? ⟨R.b, 3, none⟩ = some (.int .i64 e) := cell_at h.blk rfl
theorem RBk.c4 (h : RBk w R i e at_ agg) : w.cell? ⟨R.b, 4, none⟩ = some (.int .i64 at_) := cell_at h.blk rfl
theorem RBk.c5 (h : RBk w R i e at_ agg) : w.cell? ⟨R.b, 5, none⟩ = some (.bool agg) := cell_at h.blk rfl
theorem RBk.fz (h : RBk w R i e at_ agg) (j : Nat) : w.frozen? ⟨R.b, j, none⟩ = false := frozen_at h.blk
theorem kindI_bad (hw : R.S.Wf) (h : R.S.bad i = true) : kindI R.S i = -1 := if_pos h
theorem kindI_good (h : R.S.bad i = false) : kindI R.S i = (R.S.tok i).kind := by unfold kindI; rw [h]; rfl
theorem kindI_bd (hw : R.S.Wf) : -1 ≤ kindI R.S i ∧ kindI R.S i ≤ 13 := by
  unfold kindI
  split
  · omega
  · have := (hw.tok i).1; omega
/-- a token as it lies in the list -/
theorem rtok_at {S : Toks} {la : Option Addr} (h : Rd w la (rtoks S)) (hi : i ≤ S.ts.length) :
    ∃ b o, la = some ⟨b, o, none⟩ ∧ w.cell? ⟨b, o + i * 3, none⟩ = some (.int .i64 (kindI S i)) ∧ w.cell? ⟨b, o + i * 3 + 1, none⟩ = some (.string (S.tok i).text) ∧ w.cell? ⟨b, o + i * 3 + 2, none⟩ = some (.int .i64 (S.tok i).at_) := by
  have g : ∀ j u, (rtoks S)[i * 3 + j]? = some u → ∃ b o, la = some ⟨b, o, none⟩ ∧ w.cell? ⟨b, o + i * 3 + j, none⟩ = some u := fun j u hu => by
    obtain ⟨b, o, e, q⟩ := h (i * 3 + j) u hu
    exact ⟨b, o, e, by rw [Nat.add_assoc]; exact q⟩
  have hlen : (toksC S.ts).length = S.ts.length * 3 := toksC_length S.ts
  by_cases hlt : i < S.ts.length
  · have hb := not_bad hlt
    have ht : S.ts[i]? = some S.ts[i] := List.getElem?_eq_getElem hlt
    have hk : kindI S i = S.ts[i].kind := by unfold kindI; rw [hb, tok_in hlt]; rfl
    have gg : ∀ j u, j < 3 → (tokC S.ts[i])[j]? = some u → (rtoks S)[i * 3 + j]? = some u := fun j u hj hu => by
      unfold rtoks
      rw [List.getElem?_append_left (by rw [hlen]; omega), show toksC S.ts = S.ts.flatMap tokC from rfl, flat_get (f := tokC) (k := 3) (fun _ => rfl) ht hj]; exact hu
    obtain ⟨b, o, rfl, q0⟩ := g 0 _ (gg 0 _ (by omega) rfl)
    refine ⟨b, o, rfl, by rw [hk]; exact q0, ?_, ?_⟩
    · obtain ⟨_, _, e, q⟩ := g 1 _ (gg 1 _ (by omega) rfl); cases e; rw [tok_in hlt]; exact q
    · obtain ⟨_, _, e, q⟩ := g 2 _ (gg 2 _ (by omega) rfl); cases e; rw [tok_in hlt]; exact q
  · obtain rfl : i = S.ts.length := by omega
    have hk : kindI S S.ts.length = (if S.fault = 0 then 0 else -1) := by
      unfold kindI Toks.bad
      rw [tok_out (Nat.le_refl _)]
      by_cases hf : S.fault = 0 <;> simp [hf]
    have gg : ∀ j u, ([.int .i64 (if S.fault = 0 then 0 else -1), .string ⟨#[]⟩, .int .i64 S.fin] : List Value)[j]? = some u → (rtoks S)[S.ts.length * 3 + j]? = some u := fun j u hu => by
      unfold rtoks
      rw [List.getElem?_append_right (by rw [hlen]; omega), hlen, show S.ts.length * 3 + j - S.ts.length * 3 = j by omega]; exact hu
    obtain ⟨b, o, rfl, q0⟩ := g 0 _ (gg 0 _ rfl)
    refine ⟨b, o, rfl, by rw [hk]; exact q0, ?_, ?_⟩
    · obtain ⟨_, _, e, q⟩ := g 1 _ (gg 1 _ rfl); cases e; rw [tok_out (Nat.le_refl _)]; exact q
    · obtain ⟨_, _, e, q⟩ := g 2 _ (gg 2 _ rfl); cases e; rw [tok_out (Nat.le_refl _)]; exact q
end
theorem kind_any (R : REnv) (i e at_ : Nat) (agg : Bool) (w : World) (h : RBk w R i e at_ agg) (hi : i ≤ R.S.ts.length) :
    Calls Tryd.prog 52 #[.pointer (some ⟨R.b, 0, none⟩)] w fun e w' => e = .returned (.int .i64 (kindI R.S i)) ∧ Mod (fun _ => False) w w' := by
  obtain ⟨b, o, hla, x0, x1, x2⟩ := rtok_at h.rd hi
  have c0 := h.c0
  have c2 := h.c2
  have hlen := h.ok.len
  rw [hla] at c0
  clear h
  go_enter Tryd.func52, Tryd.ntmps52
  go_wp2_with fail
  refine wp_region_ord (fun w' => w'.cell? ⟨R.b, 0, none⟩ = some (.slice (some ⟨b, o, none⟩) (R.S.ts.length + 1) R.lc) ∧ w'.cell? ⟨R.b, 2, none⟩ = some (.int .i64 i) ∧ w'.cell? ⟨b, o + i * 3, none⟩ = some (.int .i64 (kindI R.S i))) [(0, 0), (0, 1), (0, 2), (1, 3), (0, 4), (0, 5), (0, 6), (1, 7), (0, 8), (0, 9), (1, 10), (0, 11)] (by kernel_rfl) (by kernel_rfl) ?_
  go_wp2_with (first
    | (refine ord_pure rfl rfl rfl (fun K hK => ?_); go_big_quiet_op; refine hK _ ?_; clear hK K)
                        | (refine ord_skip rfl rfl ?_; simp only [Act.put, List.setIfInBounds_toArray, List.set_cons_zero, List.set_cons_succ])
                        | (refine ord_held rfl rfl rfl (⟨by simpa using c0, by simpa using c2, by simpa using x0⟩) (fun K hK => ?_); apply Exists.intro; refine ⟨fun w' hs => ?_, hK _ ?_⟩; (revert hs; dsimp only; (try simp only [and_imp]); intros; go_simp; rfl); clear hK K)
                        | (refine ord_keep rfl rfl (⟨by simpa using c0, by simpa using c2, by simpa using x0⟩) (fun K hK => ?_))
                        | (refine ord_drop rfl rfl (fun K hK => ?_))
                        | (refine ord_nil ?_))
  go_ret
  exact ⟨rfl, (Mod.refl _ w).drew⟩
/-- what is said where a token does not do -/
def wrongR (S : Toks) (k c : Nat) : Nat × Nat := (if S.bad k = true then S.fault else c, (S.tok k).at_)
theorem wrong_any (R : REnv) (i : Nat) (agg : Bool) (c : Nat) (w : World) (h : RSt w R i agg) (hc : c ≠ 0) :
    Calls Tryd.prog 100 #[.pointer (some ⟨R.b, 0, none⟩), .int .i64 c] w fun e w' => e = .returned (.bool false) ∧ RErr w' R (wrongR R.S i c) ∧ Mod R.Ch w w' := by
  have hle := h.le
  obtain ⟨h, _⟩ := h
  have c3 := h.c3
  have f3 := h.fz 3
  obtain ⟨h1, m1⟩ := h.set (j := 3) (u := .int .i64 c) (i' := i) (e' := c) (at' := 0) (agg' := agg) rfl
  obtain ⟨w1, hw1⟩ : ∃ w1, w1 = w.setCell ⟨R.b, 3, none⟩ (.int .i64 c) := ⟨_, rfl⟩
  rw [← hw1] at h1 m1
  obtain ⟨b, o, hla, x0, x1, x2⟩ := rtok_at h1.rd hle
  have c0 := h1.c0
  have c2 := h1.c2
  have f4 := h1.fz 4
  have c4 := h1.c4
  have hlen := h1.ok.len
  rw [hla] at c0
  obtain ⟨h2, m2⟩ := h1.set (j := 4) (u := .int .i64 (R.S.tok i).at_) (i' := i) (e' := c) (at' := (R.S.tok i).at_) (agg' := agg) rfl
  have hne : b ≠ R.b := fun e => h.ok.ne (by rw [hla, e]; rfl)
  have y0 : (w1.setCell ⟨R.b, 4, none⟩ (.int .i64 (R.S.tok i).at_)).cell? ⟨b, o + i * 3, none⟩ = some (.int .i64 (kindI R.S i)) := m2.cell x0 (fun e => hne e)
  have HH := Lib.hid (And.intro h2 (And.intro (m1.trans m2) y0))
  have HW := Lib.hid hw1
  have H1 := Lib.hid h1
  have hwf := h1.ok.wf
  clear h m1 m2 h1 h2 hw1 y0
  go_enter Tryd.func100, Tryd.ntmps100
  go_wp2_with fail
  rw [← HW.out]
  clear HW c3 f3
  refine wp_region_ord (fun w' => w'.cell? ⟨R.b, 0, none⟩ = some (.slice (some ⟨b, o, none⟩) (R.S.ts.length + 1) R.lc) ∧ w'.cell? ⟨R.b, 2, none⟩ = some (.int .i64 i) ∧ w'.cell? ⟨b, o + i * 3 + 2, none⟩ = some (.int .i64 (R.S.tok i).at_)) [(0, 0), (0, 1), (0, 2), (0, 3), (1, 4), (0, 5), (0, 6), (0, 7), (1, 8), (0, 9), (0, 10), (1, 11), (0, 12), (0, 13), (3, 14)] (by kernel_rfl) (by kernel_rfl) ?_
  go_wp2_with (first
    | (refine ord_pure rfl rfl rfl (fun K hK => ?_); go_big_quiet_op; refine hK _ ?_; clear hK K)
                        | (refine ord_skip rfl rfl ?_; simp only [Act.put, List.setIfInBounds_toArray, List.set_cons_zero, List.set_cons_succ])
                        | (refine ord_held rfl rfl rfl (⟨by simpa using c0, by simpa using c2, by simpa using x2⟩) (fun K hK => ?_); apply Exists.intro; refine ⟨fun w' hs => ?_, hK _ ?_⟩; (revert hs; dsimp only; (try simp only [and_imp]); intros; go_simp; rfl); clear hK K)
                        | (refine ord_keep rfl rfl (⟨by simpa using c0, by simpa using c2, by simpa using x2⟩) (fun K hK => ?_))
                        | (refine ord_drop rfl rfl (fun K hK => ?_))
                        | (refine ord_nil ?_))
  go_wp2_with fail
  have mD := (Mod.refl (fun _ => False) (w1.setCell ⟨R.b, 4, none⟩ (.int .i64 (R.S.tok i).at_))).drew
  have H2 := Lib.hid (And.intro (HH.out.1.mod mD id (fun _ _ => id)) (And.intro (HH.out.2.1.trans (mD.mono fun _ _ f => f.elim)) (mD.cell HH.out.2.2 id)))
  obtain ⟨w2, hw2⟩ : ∃ w2, w2 = (w1.setCell ⟨R.b, 4, none⟩ (.int .i64 (R.S.tok i).at_)).drew := ⟨_, rfl⟩
  rw [← hw2] at H2 ⊢
  clear hw2 mD HH H1 c0 c2 f4 c4 x0 x1 x2
  have d0 := H2.out.1.c0
  have d1 := H2.out.1.c1
  have d2 := H2.out.1.c2
  have d3 := H2.out.1.c3
  have y0 := H2.out.2.2
  have f3 := H2.out.1.fz 3
  rw [hla] at d0
  cases hb : R.S.bad i with
  | true =>
    have hk : kindI R.S i = -1 := kindI_bad hwf hb
    rw [hk] at y0
    have HX := Lib.hid (show wrongR R.S i c = (R.S.fault, (R.S.tok i).at_) by unfold wrongR; rw [hb]; rfl)
    have HB := Lib.hid hb; clear hb hk
    refine wp_region_ord (fun w' => w'.cell? ⟨R.b, 0, none⟩ = some (.slice (some ⟨b, o, none⟩) (R.S.ts.length + 1) R.lc) ∧ w'.cell? ⟨R.b, 2, none⟩ = some (.int .i64 i) ∧ w'.cell? ⟨b, o + i * 3, none⟩ = some (.int .i64 (-1))) [(0, 0), (0, 1), (0, 2), (1, 3), (0, 4), (0, 5), (0, 6), (1, 7), (0, 8), (0, 9), (1, 10), (0, 11)] (by kernel_rfl) (by kernel_rfl) ?_
    go_wp2_with (first
      | (refine ord_pure rfl rfl rfl (fun K hK => ?_); go_big_quiet_op; refine hK _ ?_; clear hK K)
                        | (refine ord_skip rfl rfl ?_; simp only [Act.put, List.setIfInBounds_toArray, List.set_cons_zero, List.set_cons_succ])
                        | (refine ord_held rfl rfl rfl (⟨by simpa using d0, by simpa using d2, by simpa using y0⟩) (fun K hK => ?_); apply Exists.intro; refine ⟨fun w' hs => ?_, hK _ ?_⟩; (revert hs; dsimp only; (try simp only [and_imp]); intros; go_simp; rfl); clear hK K)
                        | (refine ord_keep rfl rfl (⟨by simpa using d0, by simpa using d2, by simpa using y0⟩) (fun K hK => ?_))
                        | (refine ord_drop rfl rfl (fun K hK => ?_))
                        | (refine ord_nil ?_))
    go_wp2_with fail
    go_ret
    obtain ⟨h3, m3⟩ := H2.out.1.set (j := 3) (u := .int .i64 R.S.fault) (i' := i) (e' := R.S.fault) (at' := (R.S.tok i).at_) (agg' := agg) rfl
    exact ⟨rfl, by rw [HX.out]; exact ⟨i, agg, h3.mod ((Mod.refl (fun _ => False) _).drew) id (fun _ _ => id)⟩, (H2.out.2.1.trans m3).drew⟩
  | false =>
    have hkd := (hwf.tok i).1
    have hk : kindI R.S i = (R.S.tok i).kind := kindI_good hb
    rw [hk] at y0
    have hneg : (((R.S.tok i).kind : Int) == -1) = false := by simp
    have HX := Lib.hid (show wrongR R.S i c = (c, (R.S.tok i).at_) by unfold wrongR; rw [hb]; rfl)
    have HB := Lib.hid hb; clear hb hk
    refine wp_region_ord (fun w' => w'.cell? ⟨R.b, 0, none⟩ = some (.slice (some ⟨b, o, none⟩) (R.S.ts.length + 1) R.lc) ∧ w'.cell? ⟨R.b, 2, none⟩ = some (.int .i64 i) ∧ w'.cell? ⟨b, o + i * 3, none⟩ = some (.int .i64 (R.S.tok i).kind)) [(0, 0), (0, 1), (0, 2), (1, 3), (0, 4), (0, 5), (0, 6), (1, 7), (0, 8), (0, 9), (1, 10), (0, 11)] (by kernel_rfl) (by kernel_rfl) ?_
    go_wp2_with (first
      | (refine ord_pure rfl rfl rfl (fun K hK => ?_); go_big_quiet_op; refine hK _ ?_; clear hK K)
                        | (refine ord_skip rfl rfl ?_; simp only [Act.put, List.setIfInBounds_toArray, List.set_cons_zero, List.set_cons_succ])
                        | (refine ord_held rfl rfl rfl (⟨by simpa using d0, by simpa using d2, by simpa using y0⟩) (fun K hK => ?_); apply Exists.intro; refine ⟨fun w' hs => ?_, hK _ ?_⟩; (revert hs; dsimp only; (try simp only [and_imp]); intros; go_simp; rfl); clear hK K)
                        | (refine ord_keep rfl rfl (⟨by simpa using d0, by simpa using d2, by simpa using y0⟩) (fun K hK => ?_))
                        | (refine ord_drop rfl rfl (fun K hK => ?_))
                        | (refine ord_nil ?_))
    go_wp2_with fail
    go_ret
    exact ⟨rfl, by rw [HX.out]; exact ⟨i, agg, H2.out.1.mod ((Mod.refl (fun _ => False) w2).drew) id (fun _ _ => id)⟩, H2.out.2.1.drew⟩
/-- what the reader comes to -/
def QP {α : Type} (R : REnv) (w : World) (r : PR α) (Er : Ending → Prop) (F : α → Ending → World → Prop) (e : Ending) (w' : World) : Prop :=
  (∃ x, r = .error x ∧ Er e ∧ RErr w' R x ∧ Mod R.Ch w w') ∨ ∃ a, r = .ok a ∧ F a e w' ∧ Mod R.Ch w w'
theorem wrong_word {S : Toks} {i c : Nat} (hc : c = 80) {ks : List Nat} (h : ks.contains (S.tok i).kind = false ∨ S.bad i = true) : wordP S i ks = .error (wrongR S i c) := by
  subst hc
  unfold wrongR
  cases hb : S.bad i with
  | true => rw [wordP_bad hb]; rfl
  | false =>
    rcases h with h | h
    · rw [wordP_no hb h]; rfl
    · rw [hb] at h; cases h
def noWord : Ending → Prop := fun e => e = .returned (.tuple #[.string ⟨#[]⟩, .bool false])
theorem take_any (R : REnv) (i : Nat) (agg : Bool) (a : Option Addr) (c : Nat) (ks : List Nat) (w : World) (h : RSt w R i agg) (hk : Rd w a (its (ks.map fun k : Nat => (k : Int)))) (hl : ks.length < 2 ^ 30) (h0 : ks.contains 0 = false) :
    Calls Tryd.prog 102 #[.pointer (some ⟨R.b, 0, none⟩), .slice a ks.length c] w (QP R w (wordP R.S i ks) noWord fun r e w' => e = .returned (.tuple #[.string r.1, .bool true]) ∧ RSt w' R r.2 agg) := by
  have H := Lib.hid h; have HKS := Lib.hid hk; have H0 := Lib.hid h0
  have hbd := kindI_bd (i := i) h.bk.ok.wf
  clear h hk h0
  go_enter Tryd.func102, Tryd.ntmps102
  go_wp2_with fail
  go_loopw [6] (fun iv wr => ∃ j : Nat, iv = .int .i64 j ∧ j ≤ ks.length ∧ Hid (Mod (fun _ => False) w wr) ∧ Hid (∀ x ∈ ks.take j, (x : Int) ≠ kindI R.S i)) (fun iv _ => ks.length - (intOf iv).toNat)
  case atStart => exact ⟨0, rfl, Nat.zero_le _, Mod.refl _ _, fun x hx => by simp at hx⟩
  case round =>
    obtain ⟨j, rfl, hj, hM, hN⟩ := hrel
    have hS := H.out.mod0 hM.out
    by_cases hlt : j < ks.length
    · obtain ⟨b, o, rfl, hc⟩ := its_get (HKS.out.mod hM.out (fun _ _ => id)) hlt
      have hpos : 0 < ks[j] := by
        have hm := List.getElem_mem hlt
        by_cases h : ks[j] = 0
        · have := H0.out; rw [h] at hm; simp at this; exact absurd hm this
        · omega
      have HKD : Hid (∀ W, Mod (fun _ => False) wr W → Calls Tryd.prog 52 #[.pointer (some ⟨R.b, 0, none⟩)] W fun e w' => e = .returned (.int .i64 (kindI R.S i)) ∧ Mod (fun _ => False) wr w') := fun W m => (kind_any R i 0 0 agg W (hS.bk.mod0 m) hS.le).mono fun e w' ⟨h1, h2⟩ => ⟨h1, m.trans h2⟩
      obtain ⟨kd, hkd⟩ : ∃ kd, kd = kindI R.S i := ⟨_, rfl⟩
      obtain ⟨q, hq⟩ : ∃ q, q = ks[j] := ⟨_, rfl⟩
      rw [← hkd] at HKD hbd
      rw [← hq] at hc hpos
      have HS := Lib.hid hS
      have HKE := Lib.hid hkd; have HQE := Lib.hid hq
      clear hS hkd hq
      by_cases hm : (q : Int) = kd
      · subst hm
        have hgood : R.S.bad i = false := by
          cases hb : R.S.bad i with
          | false => rfl
          | true => have := HKE.out; rw [kindI_bad HS.out.bk.ok.wf hb] at this; omega
        have hkd : (R.S.tok i).kind = q := by have := HKE.out; rw [kindI_good hgood] at this; omega
        have hct : ks.contains (R.S.tok i).kind = true := by rw [hkd, HQE.out]; simp
        have HCT := Lib.hid (And.intro hgood hct)
        have hlti := in_of (b := true) hct H0.out
        clear hgood hkd hct
        go_wp2_with fail
        refine wp_region_ord (fun w' => w'.cell? ⟨b, o + j, none⟩ = some (.int .i64 q)) [(0, 0), (0, 2), (0, 3), (0, 4), (1, 5), (2, 1), (0, 6), (0, 7), (0, 8), (0, 9), (0, 10), (1, 11), (0, 12), (0, 13)] (by kernel_rfl) (by kernel_rfl) ?_
        go_wp2_with (first
          | (refine ord_pure rfl rfl rfl (fun K hK => ?_); go_big_quiet_op; refine hK _ ?_; clear hK K)
                        | (refine ord_skip rfl rfl ?_; simp only [Act.put, List.setIfInBounds_toArray, List.set_cons_zero, List.set_cons_succ])
                        | (refine ord_held rfl rfl rfl (by simpa using hc) (fun K hK => ?_); apply Exists.intro; refine ⟨fun w' hs => ?_, hK _ ?_⟩; (revert hs; dsimp only; (try simp only [and_imp]); intros; go_simp; rfl); clear hK K)
                        | (refine ord_keep rfl rfl (by simpa using hc) (fun K hK => ?_))
                        | (refine ord_drop rfl rfl (fun K hK => ?_))
                        | (refine ord_nil ?_))
        refine (HKD.out _ (Mod.refl _ _).drew).mono ?_
        rintro e w2 ⟨rfl, hM2⟩
        refine hK _ _ (hM2.cell hc id) ?_
        clear hK K
        have HM2 := Lib.hid (hM.out.trans hM2)
        have hc2 := hM2.cell hc id
        clear hM2 hc HKD
        go_wp2_with (first
          | (refine ord_pure rfl rfl rfl (fun K hK => ?_); go_big_quiet_op; refine hK _ ?_; clear hK K)
                        | (refine ord_skip rfl rfl ?_; simp only [Act.put, List.setIfInBounds_toArray, List.set_cons_zero, List.set_cons_succ])
                        | (refine ord_held rfl rfl rfl (by simpa using hc2) (fun K hK => ?_); apply Exists.intro; refine ⟨fun w' hs => ?_, hK _ ?_⟩; (revert hs; dsimp only; (try simp only [and_imp]); intros; go_simp; rfl); clear hK K)
                        | (refine ord_keep rfl rfl (by simpa using hc2) (fun K hK => ?_))
                        | (refine ord_drop rfl rfl (fun K hK => ?_))
                        | (refine ord_nil ?_))
        go_wp2_with fail
        have hS2 := H.out.mod0 HM2.out
        obtain ⟨tb, tz, hla, x0, x1, x2⟩ := rtok_at hS2.bk.rd hS2.le
        have d0 := hS2.bk.c0
        have d2 := hS2.bk.c2
        have hlen := hS2.bk.ok.len
        have hsz := hS2.bk.ok.size i
        rw [hla] at d0
        have HS2 := Lib.hid hS2
        have HWR := Lib.hid (fun W (m : Mod (fun _ => False) w2 W) => wrong_any R i agg 84 W (hS2.mod0 m) (by omega))
        obtain ⟨s, hs⟩ : ∃ s, s = (R.S.tok i).text := ⟨_, rfl⟩
        rw [← hs] at x1 hsz
        have HSE := Lib.hid hs
        clear hS2 hs hc2 x0 x2 HS
        refine wp_region_ord (fun w' => w'.cell? ⟨R.b, 0, none⟩ = some (.slice (some ⟨tb, tz, none⟩) (R.S.ts.length + 1) R.lc) ∧ w'.cell? ⟨R.b, 2, none⟩ = some (.int .i64 i) ∧ w'.cell? ⟨tb, tz + i * 3 + 1, none⟩ = some (.string s)) [(0, 0), (0, 1), (0, 2), (1, 3), (0, 4), (0, 5), (0, 6), (1, 7), (0, 8), (0, 9), (1, 10), (0, 11)] (by kernel_rfl) (by kernel_rfl) ?_
        by_cases hlong : 4096 < s.size
        · have HX := Lib.hid (show wordP R.S i ks = .error (wrongR R.S i 84) by
            rw [wordP_long HCT.out.1 HCT.out.2 (by rw [← HSE.out]; exact hlong)]; unfold wrongR; rw [HCT.out.1]; rfl)
          go_wp2_with (first
            | (refine ord_pure rfl rfl rfl (fun K hK => ?_); go_big_quiet_op; refine hK _ ?_; clear hK K)
                        | (refine ord_skip rfl rfl ?_; simp only [Act.put, List.setIfInBounds_toArray, List.set_cons_zero, List.set_cons_succ])
                        | (refine ord_held rfl rfl rfl (⟨by simpa using d0, by simpa using d2, by simpa using x1⟩) (fun K hK => ?_); apply Exists.intro; refine ⟨fun w' hs => ?_, hK _ ?_⟩; (revert hs; dsimp only; (try simp only [and_imp]); intros; go_simp; rfl); clear hK K)
                        | (refine ord_keep rfl rfl (⟨by simpa using d0, by simpa using d2, by simpa using x1⟩) (fun K hK => ?_))
                        | (refine ord_drop rfl rfl (fun K hK => ?_))
                        | (refine ord_nil ?_))
          go_wp2_with fail
          refine (HWR.out _ (Mod.refl _ _).drew).mono ?_
          rintro e w3 ⟨rfl, hE, hM3⟩
          have HE := Lib.hid hE
          have HM3 := Lib.hid (((HM2.out.mono (T := R.Ch) fun _ _ f => f.elim).drew).trans hM3)
          clear hE hM3 d0 d2 x1
          go_wp2_with fail
          go_ret2
          exact .inl ⟨_, HX.out, rfl, HE.out, HM3.out⟩
        · have HX := Lib.hid (show wordP R.S i ks = .ok (s, i + 1) by rw [wordP_yes HCT.out.1 HCT.out.2 (by rw [← HSE.out]; exact hlong), ← HSE.out])
          have f2 := HS2.out.bk.fz 2
          go_wp2_with (first
            | (refine ord_pure rfl rfl rfl (fun K hK => ?_); go_big_quiet_op; refine hK _ ?_; clear hK K)
                        | (refine ord_skip rfl rfl ?_; simp only [Act.put, List.setIfInBounds_toArray, List.set_cons_zero, List.set_cons_succ])
                        | (refine ord_held rfl rfl rfl (⟨by simpa using d0, by simpa using d2, by simpa using x1⟩) (fun K hK => ?_); apply Exists.intro; refine ⟨fun w' hs => ?_, hK _ ?_⟩; (revert hs; dsimp only; (try simp only [and_imp]); intros; go_simp; rfl); clear hK K)
                        | (refine ord_keep rfl rfl (⟨by simpa using d0, by simpa using d2, by simpa using x1⟩) (fun K hK => ?_))
                        | (refine ord_drop rfl rfl (fun K hK => ?_))
                        | (refine ord_nil ?_))
          go_wp2_with fail
          go_ret2
          obtain ⟨h3, m3⟩ := (HS2.out.bk.mod0 ((Mod.refl (fun _ => False) w2).drew)).set (j := 2) (u := .int .i64 ((i : Int) + 1)) (i' := i + 1) (e' := 0) (at' := 0) (agg' := agg) rfl
          exact .inr ⟨_, HX.out, ⟨rfl, h3, hlti⟩, ((HM2.out.mono (T := R.Ch) fun _ _ f => f.elim).drew).trans m3⟩
      · have hmb : (kd == (q : Int)) = false := by simp; omega
        have HN2 : Hid (∀ x ∈ ks.take (j + 1), (x : Int) ≠ kindI R.S i) := fun x hx => by
          rw [List.take_succ_eq_append_getElem hlt] at hx
          rcases List.mem_append.1 hx with hx | hx
          · exact hN.out x hx
          · simp at hx; subst hx; rw [← HKE.out, ← HQE.out]; exact hm
        go_wp2_with fail
        refine wp_region_ord (fun w' => w'.cell? ⟨b, o + j, none⟩ = some (.int .i64 q)) [(0, 0), (0, 2), (0, 3), (0, 4), (1, 5), (2, 1), (0, 6), (0, 7), (0, 8), (0, 9), (0, 10), (1, 11), (0, 12), (0, 13)] (by kernel_rfl) (by kernel_rfl) ?_
        go_wp2_with (first
          | (refine ord_pure rfl rfl rfl (fun K hK => ?_); go_big_quiet_op; refine hK _ ?_; clear hK K)
                        | (refine ord_skip rfl rfl ?_; simp only [Act.put, List.setIfInBounds_toArray, List.set_cons_zero, List.set_cons_succ])
                        | (refine ord_held rfl rfl rfl (by simpa using hc) (fun K hK => ?_); apply Exists.intro; refine ⟨fun w' hs => ?_, hK _ ?_⟩; (revert hs; dsimp only; (try simp only [and_imp]); intros; go_simp; rfl); clear hK K)
                        | (refine ord_keep rfl rfl (by simpa using hc) (fun K hK => ?_))
                        | (refine ord_drop rfl rfl (fun K hK => ?_))
                        | (refine ord_nil ?_))
        refine (HKD.out _ (Mod.refl _ _).drew).mono ?_
        rintro e w2 ⟨rfl, hM2⟩
        refine hK _ _ (hM2.cell hc id) ?_
        clear hK K
        have HM2 := Lib.hid (hM.out.trans hM2)
        have hc2 := hM2.cell hc id
        clear hM2 hc HKD
        go_wp2_with (first
          | (refine ord_pure rfl rfl rfl (fun K hK => ?_); go_big_quiet_op; refine hK _ ?_; clear hK K)
                        | (refine ord_skip rfl rfl ?_; simp only [Act.put, List.setIfInBounds_toArray, List.set_cons_zero, List.set_cons_succ])
                        | (refine ord_held rfl rfl rfl (by simpa using hc2) (fun K hK => ?_); apply Exists.intro; refine ⟨fun w' hs => ?_, hK _ ?_⟩; (revert hs; dsimp only; (try simp only [and_imp]); intros; go_simp; rfl); clear hK K)
                        | (refine ord_keep rfl rfl (by simpa using hc2) (fun K hK => ?_))
                        | (refine ord_drop rfl rfl (fun K hK => ?_))
                        | (refine ord_nil ?_))
        case roundEnd => exact ⟨⟨j + 1, by go_num, hlt, HM2, HN2⟩, by simp [intOf]; omega⟩
    · obtain rfl : j = ks.length := by omega
      have HX := Lib.hid (show wordP R.S i ks = .error (wrongR R.S i 80) from wrong_word rfl (by
        cases hb : R.S.bad i with
        | true => exact .inr rfl
        | false =>
          left
          have := hN.out
          rw [List.take_length] at this
          have hk := kindI_good (R := R) hb
          cases hc : ks.contains (R.S.tok i).kind with
          | false => rfl
          | true => exact absurd (hk.symm) (this _ (by simpa using hc))))
      have HWR := Lib.hid (wrong_any R i agg 80 wr hS (by omega))
      clear hS
      go_wp2_with fail
      refine HWR.out.mono ?_
      rintro e w3 ⟨rfl, hE, hM3⟩
      have HE := Lib.hid hE
      have HM3 := Lib.hid ((hM.out.mono (T := R.Ch) fun _ _ f => f.elim).trans hM3)
      clear hE hM3
      go_wp2_with fail
      go_ret2
      exact .inl ⟨_, HX.out, rfl, HE.out, HM3.out⟩
end Go.Proofs.YtgplagdehfhffaaDoor
/-
  The document's reader: room, ends, terms.
-/
namespace Go.Proofs.YtgplagdehfhffaaDoor
open Go Go.RowKit Go.Mine
set_option linter.unusedVariables false
set_option maxHeartbeats 1000000
set_option maxRecDepth 100000

def roomP (S : Toks) (i : Nat) (ks : List Nat) (have_ most e : Nat) : PR Unit := (wantP S i ks).bind fun _ => if most ≤ have_ then .error (e, (S.tok i).at_) else .ok ()
def noB : Ending → Prop := fun e => e = .returned (.bool false)
def anyK (ks : List Nat) (kd : Int) : Bool := ks.any fun x => (x : Int) == kd
theorem anyK_snoc (ks : List Nat) (x : Nat) (kd : Int) : anyK (ks ++ [x]) kd = (anyK ks kd || ((x : Int) == kd)) := by simp [anyK]
theorem anyK_kind {S : Toks} {i : Nat} {ks : List Nat} (h0 : ks.contains 0 = false) : anyK ks (kindI S i) = (!S.bad i && ks.contains (S.tok i).kind) := by
  cases hb : S.bad i with
  | true =>
    have : kindI S i = -1 := if_pos hb
    rw [this]
    unfold anyK
    rw [Bool.eq_iff_iff]; simp
  | false =>
    have : kindI S i = (S.tok i).kind := by unfold kindI; rw [hb]; rfl
    rw [this]
    unfold anyK
    rw [Bool.eq_iff_iff]; simp
    constructor
    · rintro ⟨x, hx, e⟩
      have : x = (S.tok i).kind := by omega
      rwa [← this]
    · intro h; exact ⟨_, h, rfl⟩
theorem room_any (R : REnv) (i : Nat) (agg : Bool) (a : Option Addr) (c : Nat) (ks : List Nat) (have_ most er : Nat) (w : World) (h : RSt w R i agg) (hk : Rd w a (its (ks.map fun k : Nat => (k : Int)))) (hl : ks.length < 2 ^ 30) (h0 : ks.contains 0 = false) (he : er ≠ 0) :
    Calls Tryd.prog 53 #[.pointer (some ⟨R.b, 0, none⟩), .slice a ks.length c, .int .i64 have_, .int .i64 most, .int .i64 er] w (QP R w (roomP R.S i ks have_ most er) noB fun _ e w' => e = .returned (.bool true) ∧ RSt w' R i agg) := by
  have H := Lib.hid h; have HKS := Lib.hid hk
  have HA := Lib.hid (anyK_kind (S := R.S) (i := i) h0)
  have HLE := Lib.hid h.le
  obtain ⟨kd, hkd⟩ : ∃ kd, kd = kindI R.S i := ⟨_, rfl⟩
  rw [← hkd] at HA
  have HKD : Hid (∀ W, Mod (fun _ => False) w W → Calls Tryd.prog 52 #[.pointer (some ⟨R.b, 0, none⟩)] W fun e w' => e = .returned (.int .i64 kd) ∧ Mod (fun _ => False) W w') := fun W m => (kind_any R i 0 0 agg W (h.bk.mod0 m) h.le).mono fun e w' ⟨h1, h2⟩ => ⟨by rw [hkd]; exact h1, h2⟩
  clear h hk h0 hkd
  go_enter Tryd.func53, Tryd.ntmps53
  go_wp2_with fail
  go_loopw [11, 12] (fun fv iv wr => ∃ (j : Nat) (f : Bool), fv = .bool f ∧ iv = .int .i64 j ∧ j ≤ ks.length ∧ Hid (Mod (fun _ => False) w wr) ∧ Hid (f = anyK (ks.take j) kd)) (fun _ iv _ => ks.length - (intOf iv).toNat)
  case atStart => exact ⟨0, false, rfl, rfl, Nat.zero_le _, Mod.refl _ _, rfl⟩
  case round =>
    obtain ⟨j, f, rfl, rfl, hj, hM, hF⟩ := hrel
    by_cases hlt : j < ks.length
    · have HT := Lib.hid (List.take_succ_eq_append_getElem hlt)
      have HF2 := Lib.hid (show anyK (ks.take (j + 1)) kd = (f || ((ks[j] : Int) == kd)) by rw [HT.out, anyK_snoc, ← hF.out])
      obtain ⟨b, o, rfl, hc⟩ := its_get (HKS.out.mod hM.out (fun _ _ => id)) hlt
      generalize ks[j] = q at *
      cases f with
      | true =>
        go_wp2_with fail
        refine wp_region_ord (fun w' => w'.cell? ⟨b, o + j, none⟩ = some (.int .i64 q)) [(0, 0), (0, 1), (0, 2), (0, 4), (0, 5), (0, 6), (1, 7), (2, 3), (0, 8), (0, 9), (0, 10)] (by kernel_rfl) (by kernel_rfl) ?_
        go_wp2_with (first
          | (refine ord_pure rfl rfl rfl (fun K hK => ?_); go_big_quiet_op; refine hK _ ?_; clear hK K)
                        | (refine ord_skip rfl rfl ?_; simp only [Act.put, List.setIfInBounds_toArray, List.set_cons_zero, List.set_cons_succ])
                        | (refine ord_held rfl rfl rfl (by simpa using hc) (fun K hK => ?_); apply Exists.intro; refine ⟨fun w' hs => ?_, hK _ ?_⟩; (revert hs; dsimp only; (try simp only [and_imp]); intros; go_simp; rfl); clear hK K)
                        | (refine ord_keep rfl rfl (by simpa using hc) (fun K hK => ?_))
                        | (refine ord_drop rfl rfl (fun K hK => ?_))
                        | (refine ord_nil ?_))
        case roundEnd => exact ⟨⟨j + 1, true, rfl, by go_num, hlt, hM.out.drew, by rw [HF2.out]; rfl⟩, by simp [intOf]; omega⟩
      | false =>
        obtain ⟨f2, hf2⟩ : ∃ f2, f2 = (kd == (q : Int)) := ⟨_, rfl⟩
        have HF3 := Lib.hid (show anyK (ks.take (j + 1)) kd = f2 by rw [HF2.out, hf2, Bool.false_or, Bool.eq_iff_iff]; simp; exact eq_comm)
        have hway : (f2 = true ∧ kd = (q : Int)) ∨ (f2 = false ∧ (kd == (q : Int)) = false) := by
          cases f2 with
          | true => exact .inl ⟨rfl, by simpa using hf2.symm⟩
          | false => exact .inr ⟨rfl, hf2.symm⟩
        clear hf2 HF2
        rcases hway with ⟨rfl, rfl⟩ | ⟨rfl, hne⟩
        all_goals
          go_wp2_with fail
          refine wp_region_ord (fun w' => w'.cell? ⟨b, o + j, none⟩ = some (.int .i64 q)) [(0, 0), (0, 1), (0, 2), (0, 4), (0, 5), (0, 6), (1, 7), (2, 3), (0, 8), (0, 9), (0, 10)] (by kernel_rfl) (by kernel_rfl) ?_
          go_wp2_with (first
            | (refine ord_pure rfl rfl rfl (fun K hK => ?_); go_big_quiet_op; refine hK _ ?_; clear hK K)
                        | (refine ord_skip rfl rfl ?_; simp only [Act.put, List.setIfInBounds_toArray, List.set_cons_zero, List.set_cons_succ])
                        | (refine ord_held rfl rfl rfl (by simpa using hc) (fun K hK => ?_); apply Exists.intro; refine ⟨fun w' hs => ?_, hK _ ?_⟩; (revert hs; dsimp only; (try simp only [and_imp]); intros; go_simp; rfl); clear hK K)
                        | (refine ord_keep rfl rfl (by simpa using hc) (fun K hK => ?_))
                        | (refine ord_drop rfl rfl (fun K hK => ?_))
                        | (refine ord_nil ?_))
          refine (HKD.out _ (hM.out.drew)).mono ?_
          rintro e w2 ⟨rfl, hM2⟩
          refine hK _ _ (hM2.cell hc id) ?_
          clear hK K
          have HM2 := Lib.hid (hM.out.drew.trans hM2)
          have hc2 := hM2.cell hc id
          clear hM2 hc
          go_wp2_with (first
            | (refine ord_pure rfl rfl rfl (fun K hK => ?_); go_big_quiet_op; refine hK _ ?_; clear hK K)
                        | (refine ord_skip rfl rfl ?_; simp only [Act.put, List.setIfInBounds_toArray, List.set_cons_zero, List.set_cons_succ])
                        | (refine ord_held rfl rfl rfl (by simpa using hc2) (fun K hK => ?_); apply Exists.intro; refine ⟨fun w' hs => ?_, hK _ ?_⟩; (revert hs; dsimp only; (try simp only [and_imp]); intros; go_simp; rfl); clear hK K)
                        | (refine ord_keep rfl rfl (by simpa using hc2) (fun K hK => ?_))
                        | (refine ord_drop rfl rfl (fun K hK => ?_))
                        | (refine ord_nil ?_))
          case roundEnd => exact ⟨⟨j + 1, _, rfl, by go_num, hlt, HM2, HF3.out.symm⟩, by simp [intOf]; omega⟩
    · obtain rfl : j = ks.length := by omega
      have hF2 := hF.out
      rw [List.take_length, HA.out] at hF2
      have HF2 := Lib.hid hF2
      have HS : Hid (RSt wr R i agg) := H.out.mod0 hM.out
      clear hF hF2
      cases f with
      | false =>
        have HX := Lib.hid (show roomP R.S i ks have_ most er = .error (wrongR R.S i 80) by
          unfold roomP wrongR
          cases hb : R.S.bad i with
          | true => rw [wantP_bad hb]; rfl
          | false =>
            have := HF2.out; rw [hb] at this
            rw [wantP_no hb (by simpa using this)]; rfl)
        have HWR := Lib.hid (wrong_any R i agg 80 wr HS.out (by omega))
        go_wp2_with fail
        refine HWR.out.mono ?_
        rintro e w3 ⟨rfl, hE, hM3⟩
        have HE := Lib.hid hE
        have HM3 := Lib.hid ((hM.out.mono (T := R.Ch) fun _ _ f => f.elim).trans hM3)
        clear hE hM3
        go_wp2_with fail
        go_ret
        exact .inl ⟨_, HX.out, rfl, HE.out, HM3.out⟩
      | true =>
        have hok : R.S.bad i = false ∧ ks.contains (R.S.tok i).kind = true := by
          have := HF2.out.symm
          simpa using this
        have HW := Lib.hid (wantP_ok hok.1 hok.2)
        by_cases hm : most ≤ have_
        · have HX := Lib.hid (show roomP R.S i ks have_ most er = .error (wrongR R.S i er) by unfold roomP wrongR; rw [HW.out, bind_ok', if_pos hm, hok.1]; rfl)
          have HWR := Lib.hid (wrong_any R i agg er wr HS.out he)
          clear hok
          go_wp2_with fail
          refine HWR.out.mono ?_
          rintro e w3 ⟨rfl, hE, hM3⟩
          have HE := Lib.hid hE
          have HM3 := Lib.hid ((hM.out.mono (T := R.Ch) fun _ _ f => f.elim).trans hM3)
          clear hE hM3
          go_wp2_with fail
          go_ret
          exact .inl ⟨_, HX.out, rfl, HE.out, HM3.out⟩
        · have HX := Lib.hid (show roomP R.S i ks have_ most er = .ok () by unfold roomP; rw [HW.out, bind_ok', if_neg hm])
          clear hok
          go_wp2_with fail
          go_ret
          exact .inr ⟨(), HX.out, ⟨rfl, HS.out⟩, hM.out.mono fun _ _ f => f.elim⟩
theorem ends_any (R : REnv) (i : Nat) (agg : Bool) (w : World) (h : RSt w R i agg) :
    Calls Tryd.prog 58 #[.pointer (some ⟨R.b, 0, none⟩)] w (QP R w (wantP R.S i [0]) noB fun _ e w' => e = .returned (.bool true) ∧ RSt w' R i agg) := by
  have HKD := Lib.hid (kind_any R i 0 0 agg w h.bk h.le)
  have H := Lib.hid h
  have hwf := h.bk.ok.wf
  have hbd := (hwf.tok i).1
  clear h
  cases hb : R.S.bad i with
  | true =>
    rw [kindI_bad hwf hb] at HKD
    have HX := Lib.hid (show wantP R.S i [0] = .error (wrongR R.S i 80) by rw [wantP_bad hb]; unfold wrongR; rw [hb]; rfl)
    have HWR := Lib.hid (fun W (m : Mod (fun _ => False) w W) => wrong_any R i agg 80 W (H.out.mod0 m) (by omega))
    clear hb
    go_enter Tryd.func58, Tryd.ntmps58
    go_wp2_with fail
    refine HKD.out.mono ?_
    rintro e w1 ⟨rfl, hM⟩
    have HM := Lib.hid hM; clear hM
    go_wp2_with fail
    refine (HWR.out _ HM.out).mono ?_
    rintro e w3 ⟨rfl, hE, hM3⟩
    have HE := Lib.hid hE
    have HM3 := Lib.hid ((HM.out.mono (T := R.Ch) fun _ _ f => f.elim).trans hM3)
    clear hE hM3
    go_wp2_with fail
    go_ret
    exact .inl ⟨_, HX.out, rfl, HE.out, HM3.out⟩
  | false =>
    rw [kindI_good hb] at HKD
    by_cases h0 : (R.S.tok i).kind = 0
    · have HX := Lib.hid (wantP_ok (ks := [0]) hb (by rw [h0]; rfl))
      rw [h0] at HKD
      clear hb h0 hbd
      go_enter Tryd.func58, Tryd.ntmps58
      go_wp2_with fail
      refine HKD.out.mono ?_
      rintro e w1 ⟨rfl, hM⟩
      have HM := Lib.hid hM; clear hM
      go_wp2_with fail
      go_ret
      exact .inr ⟨(), HX.out, ⟨rfl, H.out.mod0 HM.out⟩, HM.out.mono fun _ _ f => f.elim⟩
    · have HX := Lib.hid (show wantP R.S i [0] = .error (wrongR R.S i 80) by rw [wantP_no hb (by simpa using h0)]; unfold wrongR; rw [hb]; rfl)
      have HWR := Lib.hid (fun W (m : Mod (fun _ => False) w W) => wrong_any R i agg 80 W (H.out.mod0 m) (by omega))
      have hne : (((R.S.tok i).kind : Int) == 0) = false := by simpa using h0
      clear hb h0
      go_enter Tryd.func58, Tryd.ntmps58
      go_wp2_with fail
      refine HKD.out.mono ?_
      rintro e w1 ⟨rfl, hM⟩
      have HM := Lib.hid hM; clear hM
      go_wp2_with fail
      refine (HWR.out _ HM.out).mono ?_
      rintro e w3 ⟨rfl, hE, hM3⟩
      have HE := Lib.hid hE
      have HM3 := Lib.hid ((HM.out.mono (T := R.Ch) fun _ _ f => f.elim).trans hM3)
      clear hE hM3
      go_wp2_with fail
      go_ret
      exact .inl ⟨_, HX.out, rfl, HE.out, HM3.out⟩
end Go.Proofs.YtgplagdehfhffaaDoor
/-
  The document's reader: terms.
-/
namespace Go.Proofs.YtgplagdehfhffaaDoor
open Go Go.RowKit Go.Mine
set_option linter.unusedVariables false
set_option maxHeartbeats 1000000
set_option maxRecDepth 100000

theorem QP.pre {α : Type} {R : REnv} {w w1 : World} {r : PR α} {Er : Ending → Prop} {F : α → Ending → World → Prop} (m : Mod (fun _ => False) w w1) {e : Ending} {w' : World} (h : QP R w1 r Er F e w') : QP R w r Er F e w' := by
  rcases h with ⟨x, h1, h2, h3, h4⟩ | ⟨a, h1, h2, h4⟩
  · exact .inl ⟨x, h1, h2, h3, (m.mono fun _ _ f => f.elim).trans h4⟩
  · exact .inr ⟨a, h1, h2, (m.mono fun _ _ f => f.elim).trans h4⟩
theorem take1 (R : REnv) (k : Nat) (agg : Bool) (c : Nat) (w : World) (h : RSt w R k agg) (hc : c ≠ 0) (g : Nat) (z : Int) (hg : g = w.heap.size := by first | rfl | simp) (hz : z = (c : Int) := by rfl) :
    Calls Tryd.prog 102 #[.pointer (some ⟨R.b, 0, none⟩), .slice (some ⟨g, 0, none⟩) 1 1] (w.alloc (.cells #[.int .i64 z] 3)) (QP R w (wordP R.S k [c]) noWord fun r e w' => e = .returned (.tuple #[.string r.1, .bool true]) ∧ RSt w' R r.2 agg) := by
  subst hg hz
  have m : Mod (fun _ => False) w (w.alloc (.cells #[.int .i64 c] 3)) := (Mod.refl _ w).alloc _
  have h1 := take_any R k agg (some ⟨w.heap.size, 0, none⟩) 1 [c] _ (h.mod0 m) (Rd.new w _ _) (by simp) (by simp; omega)
  exact h1.mono fun e w' h => QP.pre m h
theorem take2 (R : REnv) (k : Nat) (agg : Bool) (c d : Nat) (w : World) (h : RSt w R k agg) (hc : c ≠ 0) (hd : d ≠ 0) (g : Nat) (z y : Int) (hg : g = w.heap.size := by first | rfl | simp) (hz : z = (c : Int) := by rfl) (hy : y = (d : Int) := by rfl) :
    Calls Tryd.prog 102 #[.pointer (some ⟨R.b, 0, none⟩), .slice (some ⟨g, 0, none⟩) 2 2] (w.alloc (.cells #[.int .i64 z, .int .i64 y] 3)) (QP R w (wordP R.S k [c, d]) noWord fun r e w' => e = .returned (.tuple #[.string r.1, .bool true]) ∧ RSt w' R r.2 agg) := by
  subst hg hz hy
  have m : Mod (fun _ => False) w (w.alloc (.cells #[.int .i64 c, .int .i64 d] 3)) := (Mod.refl _ w).alloc _
  have h1 := take_any R k agg (some ⟨w.heap.size, 0, none⟩) 2 [c, d] _ (h.mod0 m) (Rd.news w [.int .i64 c, .int .i64 d] _) (by simp) (by simp; omega)
  exact h1.mono fun e w' h => QP.pre m h
section
variable {w0 w w' : World} {R : REnv} {k k' : Nat} {agg agg' : Bool}
theorem RSt.lal (h : RSt w R k agg) : ∀ b, blk R.la = some b → b < w.heap.size := by
  intro b hb
  obtain ⟨b', o, hla, x0, _, _⟩ := rtok_at h.bk.rd h.le
  rw [hla] at hb
  simp at hb
  subst hb
  exact World.block_lt_of_cell? w _ x0
theorem RSt.far (h0 : RSt w0 R k agg) (h : RSt w R k' agg') (m : Mod (Far w0) w w') : RSt w' R k' agg' := by
  have h1 := h0.lt; have h2 := h0.lal
  unfold Far at m
  exact h.mod m (by omega) (fun b hb hc => by have := h2 b hb; omega)
theorem RErr.far {x : Nat × Nat} (h0 : RSt w0 R k agg) (h : RErr w R x) (m : Mod (Far w0) w w') : RErr w' R x := by
  have h1 := h0.lt; have h2 := h0.lal
  unfold Far at m
  obtain ⟨i, ag, h⟩ := h
  exact ⟨i, ag, h.mod m (by omega) (fun b hb hc => by have := h2 b hb; omega)⟩
theorem RSt.nch (h : RSt w R k agg) {b : Nat} (hb : w.heap.size ≤ b) : ¬ R.Ch b := by unfold REnv.Ch; have := h.lt; omega
theorem RSt.kindC (h : RSt w R k agg) : Calls Tryd.prog 52 #[.pointer (some ⟨R.b, 0, none⟩)] w fun e w' => e = .returned (.int .i64 (kindI R.S k)) ∧ Mod (fun _ => False) w w' := kind_any R k 0 0 agg w h.bk h.le
end
theorem termP_two {S : Toks} {k : Nat} (h : kindI S k = 2) : termP S k = (wordP S k [2]).bind fun r => .ok (varL r.1, r.2) := by
  have hb : S.bad k = false := by
    cases hb : S.bad k with
    | false => rfl
    | true => unfold kindI at h; rw [if_pos hb] at h; omega
  have hk : (S.tok k).kind = 2 := by unfold kindI at h; rw [hb] at h; simp at h; omega
  unfold termP
  rw [isP_val hb, hk]; rfl
theorem termP_no {S : Toks} {k : Nat} (h : kindI S k ≠ 2) : termP S k = (wordP S k [1, 3]).bind fun r => .ok (⟨3, r.1⟩, r.2) := by
  unfold termP
  cases hb : S.bad k with
  | true => rw [isP_bad hb, wordP_bad (ks := [1, 3]) hb]; rfl
  | false =>
    have hk : (S.tok k).kind ≠ 2 := by intro e; apply h; unfold kindI; rw [hb]; simp; omega
    rw [isP_val hb, bind_ok', if_neg (by simpa using hk)]
def noTm : Ending → Prop := fun e => ∃ (k : Int) (s : ByteArray), e = .returned (.tuple #[.agg #[.int .i64 k, .string s], .bool false])
theorem refTerm_any (R : REnv) (k : Nat) (agg : Bool) (w : World) (h : RSt w R k agg) :
    Calls Tryd.prog 114 #[.pointer (some ⟨R.b, 0, none⟩)] w (QP R w (termP R.S k) noTm fun r e w' => e = .returned (.tuple #[tmV r.1, .bool true]) ∧ RSt w' R r.2 agg) := by
  have m0 : Mod (fun _ => False) w (w.alloc (.cells #[.int .i64 0, .string ⟨#[]⟩] 60)) := (Mod.refl _ w).alloc _
  have h0 := h.mod0 m0
  have HB0 := Lib.hid (heap_alloc_new w (.cells #[.int .i64 0, .string ⟨#[]⟩] 60))
  have HKD := Lib.hid h0.kindC
  have H := Lib.hid h; have H0 := Lib.hid h0; have M0 := Lib.hid m0
  have hbd := kindI_bd (i := k) h.bk.ok.wf
  clear h h0 m0
  by_cases hk2 : kindI R.S k = 2
  · have HD := Lib.hid (termP_two hk2)
    rw [hk2] at HKD
    clear hk2 hbd
    go_enter Tryd.func114, Tryd.ntmps114
    go_wp2_with fail
    refine HKD.out.mono ?_
    rintro e w1 ⟨rfl, hM⟩
    have HT := Lib.hid (take1 R k agg 2 w1 (H0.out.mod0 hM) (by omega) w1.heap.size 2)
    have HB1 := Lib.hid (hM.at HB0.out id)
    have HM1 := Lib.hid ((M0.out.trans hM).mono (T := R.Ch) fun _ _ f => f.elim)
    clear hM HKD HB0
    go_wp2_with fail
    refine HT.out.mono ?_
    rintro e w2 (⟨x, hx, rfl, hE, hM2⟩ | ⟨⟨s, k2⟩, hx, ⟨rfl, hS⟩, hM2⟩)
    · have HX := Lib.hid (show termP R.S k = .error x by rw [HD.out, hx]; rfl)
      have HE := Lib.hid hE
      have hb2 := hM2.at HB1.out (by unfold REnv.Ch; have := H.out.lt; omega)
      have c0 := cell_at (j := 0) hb2 rfl
      have c1 := cell_at (j := 1) hb2 rfl
      have f0 : w2.frozen? ⟨w.heap.size, 0, none⟩ = false := frozen_at hb2
      have f1 : w2.frozen? ⟨w.heap.size, 1, none⟩ = false := frozen_at hb2
      have HB2 := Lib.hid hb2
      have HM2 := Lib.hid (HM1.out.trans hM2)
      clear hb2 hM2
      clear hx hE HT
      go_wp2_with fail
      obtain ⟨w9, hw9⟩ : ∃ w9, w9 = ((w2.setCell ⟨w.heap.size, 0, none⟩ (.int .i64 1)).setCell ⟨w.heap.size, 1, none⟩ (.string ⟨#[]⟩)) := ⟨_, rfl⟩
      have b9 : w9.heap[w.heap.size]? = some (.cells #[.int .i64 1, .string ⟨#[]⟩] 60 (0, 0)) := by rw [hw9]; exact heap_setCell_at (j := 1) (.string ⟨#[]⟩) (heap_setCell_at (j := 0) (.int .i64 1) HB2.out)
      have m9 : Mod (fun b => b = w.heap.size) w2 w9 := by rw [hw9]; exact ((Mod.refl (fun b => b = w.heap.size) w2).setCell (p := ⟨w.heap.size, 0, none⟩) (fun _ => rfl) _).setCell (p := ⟨w.heap.size, 1, none⟩) (fun _ => rfl) _
      have mF : Mod (Far w) w2 w9 := m9.mono fun _ _ e => Nat.le_of_eq e.symm
      rw [← hw9]
      clear hw9 c0 c1 f0 f1
      have e0 := cell_at (j := 0) b9 rfl
      have e1 := cell_at (j := 1) b9 rfl
      refine bodyPost_ret (v := .tuple #[.agg #[.int .i64 1, .string ⟨#[]⟩], .bool false]) (by simp [results, Tryd.results114, go_sem, e0, e1]) rfl ?_
      exact .inl ⟨x, HX.out, ⟨1, ⟨#[]⟩, rfl⟩, HE.out.far H.out mF, Mod.far HM2.out mF⟩
    · have HX := Lib.hid (show termP R.S k = .ok (varL s, k2) by rw [HD.out, hx]; rfl)
      have HS := Lib.hid hS
      have hb2 := hM2.at HB1.out (by unfold REnv.Ch; have := H.out.lt; omega)
      have c0 := cell_at (j := 0) hb2 rfl
      have c1 := cell_at (j := 1) hb2 rfl
      have f0 : w2.frozen? ⟨w.heap.size, 0, none⟩ = false := frozen_at hb2
      have f1 : w2.frozen? ⟨w.heap.size, 1, none⟩ = false := frozen_at hb2
      have HB2 := Lib.hid hb2
      have HM2 := Lib.hid (HM1.out.trans hM2)
      clear hb2 hM2
      clear hx hS HT
      by_cases hs : s = blankB
      · have HX3 : Hid (varL s = ⟨2, emptyB⟩) := by unfold varL; rw [if_pos hs]; exact rfl
        unfold blankB at hs
        subst hs
        go_wp2_with fail
        obtain ⟨s, hss⟩ : ∃ s : ByteArray, s = ⟨#[95]⟩ := ⟨_, rfl⟩
        rw [← hss] at HX HX3
        obtain ⟨w9, hw9⟩ : ∃ w9, w9 = ((w2.setCell ⟨w.heap.size, 0, none⟩ (.int .i64 2)).setCell ⟨w.heap.size, 1, none⟩ (.string ⟨#[]⟩)) := ⟨_, rfl⟩
        have b9 : w9.heap[w.heap.size]? = some (.cells #[.int .i64 2, .string ⟨#[]⟩] 60 (0, 0)) := by rw [hw9]; exact heap_setCell_at (j := 1) (.string ⟨#[]⟩) (heap_setCell_at (j := 0) (.int .i64 2) HB2.out)
        have m9 : Mod (fun b => b = w.heap.size) w2 w9 := by rw [hw9]; exact ((Mod.refl (fun b => b = w.heap.size) w2).setCell (p := ⟨w.heap.size, 0, none⟩) (fun _ => rfl) _).setCell (p := ⟨w.heap.size, 1, none⟩) (fun _ => rfl) _
        have mF : Mod (Far w) w2 w9 := m9.mono fun _ _ e => Nat.le_of_eq e.symm
        rw [← hw9]
        clear hw9 c0 c1 f0 f1
        have e0 := cell_at (j := 0) b9 rfl
        have e1 := cell_at (j := 1) b9 rfl
        refine bodyPost_ret (v := .tuple #[.agg #[.int .i64 2, .string ⟨#[]⟩], .bool true]) (by simp [results, Tryd.results114, go_sem, e0, e1]) rfl ?_
        exact .inr ⟨_, HX.out, ⟨by rw [HX3.out]; rfl, H.out.far HS.out mF⟩, Mod.far HM2.out mF⟩
      · have HX3 : Hid (varL s = ⟨1, s⟩) := by unfold varL; rw [if_neg hs]; exact rfl
        have hse : (s.toList == [95]) = false := by simpa using toList_ne (l := [95]) hs
        clear hs
        go_wp2_with fail
        obtain ⟨w9, hw9⟩ : ∃ w9, w9 = ((w2.setCell ⟨w.heap.size, 0, none⟩ (.int .i64 1)).setCell ⟨w.heap.size, 1, none⟩ (.string s)) := ⟨_, rfl⟩
        have b9 : w9.heap[w.heap.size]? = some (.cells #[.int .i64 1, .string s] 60 (0, 0)) := by rw [hw9]; exact heap_setCell_at (j := 1) (.string s) (heap_setCell_at (j := 0) (.int .i64 1) HB2.out)
        have m9 : Mod (fun b => b = w.heap.size) w2 w9 := by rw [hw9]; exact ((Mod.refl (fun b => b = w.heap.size) w2).setCell (p := ⟨w.heap.size, 0, none⟩) (fun _ => rfl) _).setCell (p := ⟨w.heap.size, 1, none⟩) (fun _ => rfl) _
        have mF : Mod (Far w) w2 w9 := m9.mono fun _ _ e => Nat.le_of_eq e.symm
        rw [← hw9]
        clear hw9 c0 c1 f0 f1
        have e0 := cell_at (j := 0) b9 rfl
        have e1 := cell_at (j := 1) b9 rfl
        refine bodyPost_ret (v := .tuple #[.agg #[.int .i64 1, .string s], .bool true]) (by simp [results, Tryd.results114, go_sem, e0, e1]) rfl ?_
        exact .inr ⟨_, HX.out, ⟨by rw [HX3.out]; rfl, H.out.far HS.out mF⟩, Mod.far HM2.out mF⟩
  · have HD := Lib.hid (termP_no hk2)
    obtain ⟨kd, hkd⟩ : ∃ kd, kd = kindI R.S k := ⟨_, rfl⟩
    rw [← hkd] at HKD hk2 hbd
    have hkb : (kd == 2) = false := by simpa using hk2
    clear hk2 hkd
    go_enter Tryd.func114, Tryd.ntmps114
    go_wp2_with fail
    refine HKD.out.mono ?_
    rintro e w1 ⟨rfl, hM⟩
    have HT := Lib.hid (take2 R k agg 1 3 w1 (H0.out.mod0 hM) (by omega) (by omega) w1.heap.size 1 3)
    have HB1 := Lib.hid (hM.at HB0.out id)
    have HM1 := Lib.hid ((M0.out.trans hM).mono (T := R.Ch) fun _ _ f => f.elim)
    clear hM HKD HB0
    go_wp2_with fail
    refine HT.out.mono ?_
    rintro e w2 (⟨x, hx, rfl, hE, hM2⟩ | ⟨⟨s, k2⟩, hx, ⟨rfl, hS⟩, hM2⟩)
    · have HX := Lib.hid (show termP R.S k = .error x by rw [HD.out, hx]; rfl)
      have HE := Lib.hid hE
      have hb2 := hM2.at HB1.out (by unfold REnv.Ch; have := H.out.lt; omega)
      have c0 := cell_at (j := 0) hb2 rfl
      have c1 := cell_at (j := 1) hb2 rfl
      have f0 : w2.frozen? ⟨w.heap.size, 0, none⟩ = false := frozen_at hb2
      have f1 : w2.frozen? ⟨w.heap.size, 1, none⟩ = false := frozen_at hb2
      have HB2 := Lib.hid hb2
      have HM2 := Lib.hid (HM1.out.trans hM2)
      clear hb2 hM2
      clear hx hE HT
      go_wp2_with fail
      obtain ⟨w9, hw9⟩ : ∃ w9, w9 = ((w2.setCell ⟨w.heap.size, 0, none⟩ (.int .i64 3)).setCell ⟨w.heap.size, 1, none⟩ (.string ⟨#[]⟩)) := ⟨_, rfl⟩
      have b9 : w9.heap[w.heap.size]? = some (.cells #[.int .i64 3, .string ⟨#[]⟩] 60 (0, 0)) := by rw [hw9]; exact heap_setCell_at (j := 1) (.string ⟨#[]⟩) (heap_setCell_at (j := 0) (.int .i64 3) HB2.out)
      have m9 : Mod (fun b => b = w.heap.size) w2 w9 := by rw [hw9]; exact ((Mod.refl (fun b => b = w.heap.size) w2).setCell (p := ⟨w.heap.size, 0, none⟩) (fun _ => rfl) _).setCell (p := ⟨w.heap.size, 1, none⟩) (fun _ => rfl) _
      have mF : Mod (Far w) w2 w9 := m9.mono fun _ _ e => Nat.le_of_eq e.symm
      rw [← hw9]
      clear hw9 c0 c1 f0 f1
      have e0 := cell_at (j := 0) b9 rfl
      have e1 := cell_at (j := 1) b9 rfl
      refine bodyPost_ret (v := .tuple #[.agg #[.int .i64 3, .string ⟨#[]⟩], .bool false]) (by simp [results, Tryd.results114, go_sem, e0, e1]) rfl ?_
      exact .inl ⟨x, HX.out, ⟨3, ⟨#[]⟩, rfl⟩, HE.out.far H.out mF, Mod.far HM2.out mF⟩
    · have HX := Lib.hid (show termP R.S k = .ok (⟨3, s⟩, k2) by rw [HD.out, hx]; rfl)
      have HS := Lib.hid hS
      have hb2 := hM2.at HB1.out (by unfold REnv.Ch; have := H.out.lt; omega)
      have c0 := cell_at (j := 0) hb2 rfl
      have c1 := cell_at (j := 1) hb2 rfl
      have f0 : w2.frozen? ⟨w.heap.size, 0, none⟩ = false := frozen_at hb2
      have f1 : w2.frozen? ⟨w.heap.size, 1, none⟩ = false := frozen_at hb2
      have HB2 := Lib.hid hb2
      have HM2 := Lib.hid (HM1.out.trans hM2)
      clear hb2 hM2
      clear hx hS HT
      go_wp2_with fail
      obtain ⟨w9, hw9⟩ : ∃ w9, w9 = ((w2.setCell ⟨w.heap.size, 0, none⟩ (.int .i64 3)).setCell ⟨w.heap.size, 1, none⟩ (.string s)) := ⟨_, rfl⟩
      have b9 : w9.heap[w.heap.size]? = some (.cells #[.int .i64 3, .string s] 60 (0, 0)) := by rw [hw9]; exact heap_setCell_at (j := 1) (.string s) (heap_setCell_at (j := 0) (.int .i64 3) HB2.out)
      have m9 : Mod (fun b => b = w.heap.size) w2 w9 := by rw [hw9]; exact ((Mod.refl (fun b => b = w.heap.size) w2).setCell (p := ⟨w.heap.size, 0, none⟩) (fun _ => rfl) _).setCell (p := ⟨w.heap.size, 1, none⟩) (fun _ => rfl) _
      have mF : Mod (Far w) w2 w9 := m9.mono fun _ _ e => Nat.le_of_eq e.symm
      rw [← hw9]
      clear hw9 c0 c1 f0 f1
      have e0 := cell_at (j := 0) b9 rfl
      have e1 := cell_at (j := 1) b9 rfl
      refine bodyPost_ret (v := .tuple #[.agg #[.int .i64 3, .string s], .bool true]) (by simp [results, Tryd.results114, go_sem, e0, e1]) rfl ?_
      exact .inr ⟨_, HX.out, ⟨rfl, H.out.far HS.out mF⟩, Mod.far HM2.out mF⟩
def aggW : List ByteArray := [wCount, wSum, wMin, wMax]
theorem aggW_hit {s : ByteArray} {k : Nat} (hk : k < 4) (h : ∀ j, j < k → s ≠ aggW.getD j emptyB) (he : s = aggW.getD k emptyB) : aggL s = 4 + k := by
  have hc : k = 0 ∨ k = 1 ∨ k = 2 ∨ k = 3 := by omega
  subst he
  rcases hc with rfl | rfl | rfl | rfl <;> (unfold aggL aggW; simp) <;> decide
theorem aggW_miss {s : ByteArray} (h : ∀ j, j < 4 → s ≠ aggW.getD j emptyB) : aggL s = 0 := by
  unfold aggL
  have h0 : s ≠ wCount := h 0 (by omega)
  have h1 : s ≠ wSum := h 1 (by omega)
  have h2 : s ≠ wMin := h 2 (by omega)
  have h3 : s ≠ wMax := h 3 (by omega)
  rw [if_neg h0, if_neg h1, if_neg h2, if_neg h3]
theorem refAggregate_any (s : ByteArray) (w : World) :
    Calls Tryd.prog 144 #[.string s] w fun e w' => e = .returned (.int .i64 (aggL s)) ∧ Mod (fun _ => False) w w' := by
  have hR : Rd (w.alloc (.cells #[.string wCount, .string wSum, .string wMin, .string wMax] 9)) (some ⟨w.heap.size, 0, none⟩) (sts aggW) := Rd.news w _ _
  have HR := Lib.hid hR
  have HM : Hid (Mod (fun _ => False) w (w.alloc (.cells #[.string wCount, .string wSum, .string wMin, .string wMax] 9))) := (Mod.refl _ w).alloc _
  unfold wCount wSum wMin wMax at HR HM
  clear hR
  go_enter Tryd.func144, Tryd.ntmps144
  go_wp2_with fail
  obtain ⟨w1, hw1⟩ : ∃ w1, w1 = w.alloc (.cells #[.string ⟨#[99, 111, 117, 110, 116]⟩, .string ⟨#[115, 117, 109]⟩, .string ⟨#[109, 105, 110]⟩, .string ⟨#[109, 97, 120]⟩] 9) := ⟨_, rfl⟩
  rw [← hw1] at HR HM ⊢
  clear hw1
  go_loop [4] (fun iv => ∃ k : Nat, iv = .int .i64 k ∧ k ≤ 4 ∧ Hid (∀ j, j < k → s ≠ aggW.getD j emptyB)) (fun iv => 4 - (intOf iv).toNat)
  case atStart => exact ⟨0, rfl, by omega, fun j hj => by omega⟩
  case round =>
    obtain ⟨k, rfl, hk, hN⟩ := hrel
    by_cases hlt : k < 4
    · have hg : (sts aggW)[k]? = some (.string (aggW.getD k emptyB)) := by
        have hc : k = 0 ∨ k = 1 ∨ k = 2 ∨ k = 3 := by omega
        rcases hc with rfl | rfl | rfl | rfl <;> rfl
      obtain ⟨b, o, e, hc⟩ := HR.out k _ hg
      cases e
      have HHit := Lib.hid (fun h => aggW_hit hlt hN.out h)
      have HNx : Hid (s ≠ aggW.getD k emptyB → ∀ j, j < k + 1 → s ≠ aggW.getD j emptyB) := fun h j hj => by
        by_cases e : j = k
        · rw [e]; exact h
        · exact hN.out j (by omega)
      generalize aggW.getD k emptyB = x at *
      simp only [Nat.zero_add] at hc
      clear hg
      by_cases hx : s = x
      · have HX := Lib.hid (HHit.out hx)
        have hb : (s.toList == x.toList) = true := by rw [baEq]; exact decide_eq_true hx
        clear hx HHit HNx
        go_wp2_with fail
        go_ret
        exact ⟨by rw [HX.out]; congr 1, HM.out⟩
      · have HX := Lib.hid (HNx.out hx)
        have hb : (s.toList == x.toList) = false := by rw [baEq]; exact decide_eq_false hx
        clear hx HHit HNx
        go_wp2_with fail
        go_round
        case rel => exact ⟨k + 1, by go_num, hlt, HX⟩
        case measure => simp [intOf]; omega
    · obtain rfl : k = 4 := by omega
      have HX := Lib.hid (aggW_miss hN.out)
      go_wp2_with fail
      go_ret
      exact ⟨by rw [HX.out]; rfl, HM.out⟩
end Go.Proofs.YtgplagdehfhffaaDoor
/-
  The document's reader: parts of a head.
-/
namespace Go.Proofs.YtgplagdehfhffaaDoor
open Go Go.RowKit Go.Mine
set_option linter.unusedVariables false
set_option maxHeartbeats 1000000
set_option maxRecDepth 100000

theorem kindI_pos {S : Toks} {k : Nat} {c : Int} (hc : 0 < c) (h : kindI S k = c) : S.bad k = false ∧ ((S.tok k).kind : Int) = c ∧ k < S.ts.length := by
  have hb : S.bad k = false := by
    cases hb : S.bad k with
    | false => rfl
    | true => unfold kindI at h; rw [if_pos hb] at h; omega
  have hk : ((S.tok k).kind : Int) = c := by unfold kindI at h; rw [hb] at h; simpa using h
  exact ⟨hb, hk, in_kind (S := S) (by omega)⟩
theorem aggAt_not {S : Toks} {k : Nat} {agg : Bool} (h : kindI S k ≠ 1 ∨ kindI S (k + 1) ≠ 4 ∨ agg = true) (hk : k ≤ S.ts.length) : aggAt S k agg = 0 := by
  unfold aggAt
  rw [if_neg]
  rintro ⟨h1, h2, h3⟩
  have hb := not_bad (in_kind (S := S) (k := k) (by omega))
  have hb2 := not_bad (in_kind (S := S) (k := k + 1) (by omega))
  rcases h with h | h | h
  · apply h; unfold kindI; rw [hb]; simp; omega
  · apply h; unfold kindI; rw [hb2]; simp; omega
  · rw [h3] at h; cases h
theorem refPart_any (R : REnv) (k : Nat) (agg : Bool) (w : World) (h : RSt w R k agg) :
    Calls Tryd.prog 113 #[.pointer (some ⟨R.b, 0, none⟩)] w (QP R w (partR R.S k agg) noTm fun r e w' => e = .returned (.tuple #[tmV r.1, .bool true]) ∧ RSt w' R r.2.1 r.2.2) := by
  have m0 : Mod (fun _ => False) w (w.alloc (.cells #[.int .i64 0, .string ⟨#[]⟩] 60)) := (Mod.refl _ w).alloc _
  have HB0 := Lib.hid (heap_alloc_new w (.cells #[.int .i64 0, .string ⟨#[]⟩] 60))
  have HKD : Hid (∀ W, Mod (fun _ => False) w W → Calls Tryd.prog 52 #[.pointer (some ⟨R.b, 0, none⟩)] W fun e w' => e = .returned (.int .i64 (kindI R.S k)) ∧ Mod (fun _ => False) W w') := fun W m => (h.mod0 m).kindC
  have H := Lib.hid h; have M0 := Lib.hid m0
  have hbd := kindI_bd (i := k) h.bk.ok.wf
  have hlen := h.bk.ok.len
  clear h m0
  by_cases h1 : kindI R.S k = 1
  · obtain ⟨hb, hkd, hlt⟩ := kindI_pos (by omega) h1
    have HK1 := Lib.hid (And.intro hb (And.intro hkd h1))
    rw [h1] at HKD
    clear hbd hb hkd h1
    obtain ⟨k4, hk4⟩ : ∃ k4, k4 = kindI R.S (k + 1) := ⟨_, rfl⟩
    have HK4 := Lib.hid hk4
    clear hk4
    go_enter Tryd.func113, Tryd.ntmps113
    go_wp2_with fail
    have hway : (k4 ≠ 4 ∨ (k4 = 4 ∧ agg = true)) ∨ (k4 = 4 ∧ agg = false) := by
      by_cases h4 : k4 = 4
      · cases agg with
        | true => exact .inl (.inr ⟨h4, rfl⟩)
        | false => exact .inr ⟨h4, rfl⟩
      · exact .inl (.inl h4)
    rcases hway with hway | ⟨rfl, rfl⟩
    · have HAZ := Lib.hid (show partR R.S k agg = (termP R.S k).bind fun r => .ok (r.1, r.2, agg) by
        unfold partR
        rw [if_pos (aggAt_not (.inr (by
          rcases hway with h | ⟨_, h⟩
          · exact .inl (by rw [← HK4.out]; exact h)
          · exact .inr h)) H.out.le)])
      have hw2 : (k4 == 4) = false ∨ (k4 = 4 ∧ agg = true) := by
        rcases hway with h | h
        · exact .inl (by simpa using h)
        · exact .inr h
      clear hway
      obtain ⟨lb, lo, hla, -⟩ := rtok_at H.out.bk.rd H.out.le
      rcases hw2 with hk4 | ⟨rfl, rfl⟩
      · skip
        refine wp_region_ord (fun w' => w'.cell? ⟨R.b, 0, none⟩ = some (.slice (some ⟨lb, lo, none⟩) (R.S.ts.length + 1) R.lc) ∧ w'.cell? ⟨R.b, 2, none⟩ = some (.int .i64 k) ∧ w'.cell? ⟨lb, lo + (k + 1) * 3, none⟩ = some (.int .i64 k4) ∧ w'.cell? ⟨R.b, 5, none⟩ = some (.bool agg)) [(0, 0), (3, 1), (0, 2), (0, 3), (0, 4), (0, 5), (0, 6), (1, 7), (0, 8), (0, 9), (0, 10), (1, 11), (0, 12), (0, 13), (0, 14), (1, 15), (0, 16), (0, 17), (0, 18), (0, 19), (0, 20), (0, 21), (1, 22), (0, 23), (0, 24)] (by kernel_rfl) (by kernel_rfl) ?_
        go_wp2_with (first
          | (refine ord_pure rfl rfl rfl (fun K hK => ?_); go_big_quiet_op; refine hK _ ?_; clear hK K)
                        | (refine ord_skip rfl rfl ?_; simp only [Act.put, List.setIfInBounds_toArray, List.set_cons_zero, List.set_cons_succ])
                        | (refine ord_held rfl rfl rfl (trivial) (fun K hK => ?_); apply Exists.intro; refine ⟨fun w' hs => ?_, hK _ ?_⟩; (revert hs; dsimp only; (try simp only [and_imp]); intros; go_simp; rfl); clear hK K)
                        | (refine ord_keep rfl rfl (trivial) (fun K hK => ?_))
                        | (refine ord_drop rfl rfl (fun K hK => ?_))
                        | (refine ord_nil ?_))
        refine (HKD.out _ M0.out.drew).mono ?_
        rintro e w1 ⟨rfl, hM⟩
        have HS1 := Lib.hid (H.out.mod0 (M0.out.drew.trans hM))
        have HB1 := Lib.hid (hM.at (w := (w.alloc (.cells #[.int .i64 0, .string ⟨#[]⟩] 60)).drew) HB0.out id)
        have HM1 := Lib.hid ((M0.out.drew.trans hM).mono (T := R.Ch) fun _ _ f => f.elim)
        have q0 := HS1.out.bk.c0
        have q2 := HS1.out.bk.c2
        have q5 := HS1.out.bk.c5
        rw [hla] at q0
        obtain ⟨lb', lo', hla', x0, x1, x2⟩ := rtok_at (i := k + 1) HS1.out.bk.rd hlt
        rw [hla] at hla'; cases hla'
        rw [← HK4.out] at x0
        clear hM
        go_wp2_with (first
          | (refine ord_pure rfl rfl rfl (fun K hK => ?_); go_big_quiet_op; refine hK _ ?_; clear hK K)
                        | (refine ord_skip rfl rfl ?_; simp only [Act.put, List.setIfInBounds_toArray, List.set_cons_zero, List.set_cons_succ])
                        | (refine ord_held rfl rfl rfl (⟨by simpa using q0, by simpa using q2, by simpa using x0, by simpa using q5⟩) (fun K hK => ?_); apply Exists.intro; refine ⟨fun w' hs => ?_, hK _ ?_⟩; (revert hs; dsimp only; (try simp only [and_imp]); intros; go_simp; rfl); clear hK K)
                        | (refine ord_keep rfl rfl (⟨by simpa using q0, by simpa using q2, by simpa using x0, by simpa using q5⟩) (fun K hK => ?_))
                        | (refine ord_drop rfl rfl (fun K hK => ?_))
                        | (refine ord_nil ?_))
        have HTM := Lib.hid (refTerm_any R k agg w1 HS1.out)
        go_wp2_with fail
        refine HTM.out.mono ?_
        rintro e w2 (⟨x, hx, ⟨jk, js, rfl⟩, hE, hM2⟩ | ⟨⟨⟨tk, tt⟩, k2⟩, hx, ⟨rfl, hS⟩, hM2⟩)
        · have HX := Lib.hid (show partR R.S k agg = .error x by rw [HAZ.out, hx]; rfl)
          have HB2 := Lib.hid (hM2.at HB1.out (H.out.nch (Nat.le_refl _)))
          have HM2 := Lib.hid (HM1.out.trans hM2)
          have HE := Lib.hid hE
          clear hx hE hM2 HTM
          have c0 := cell_at (j := 0) HB2.out rfl
          have c1 := cell_at (j := 1) HB2.out rfl
          have f0 : (w2).frozen? ⟨w.heap.size, 0, none⟩ = false := frozen_at HB2.out
          have f1 : (w2).frozen? ⟨w.heap.size, 1, none⟩ = false := frozen_at HB2.out
          go_wp2_with fail
          obtain ⟨w9, hw9⟩ : ∃ w9, w9 = (((w2).setCell ⟨w.heap.size, 0, none⟩ (.int .i64 jk)).setCell ⟨w.heap.size, 1, none⟩ (.string js)) := ⟨_, rfl⟩
          have b9 : w9.heap[w.heap.size]? = some (.cells #[.int .i64 jk, .string js] 60 (0, 0)) := by rw [hw9]; exact heap_setCell_at (j := 1) (.string js) (heap_setCell_at (j := 0) (.int .i64 jk) HB2.out)
          have m9 : Mod (fun b => b = w.heap.size) (w2) w9 := by rw [hw9]; exact ((Mod.refl (fun b => b = w.heap.size) _).setCell (p := ⟨w.heap.size, 0, none⟩) (fun _ => rfl) _).setCell (p := ⟨w.heap.size, 1, none⟩) (fun _ => rfl) _
          have mF : Mod (Far w) (w2) w9 := m9.mono fun _ _ e => Nat.le_of_eq e.symm
          rw [← hw9]
          clear hw9
          have e0 := cell_at (j := 0) b9 rfl
          have e1 := cell_at (j := 1) b9 rfl
          refine bodyPost_ret (v := .tuple #[.agg #[.int .i64 jk, .string js], .bool false]) (by simp [results, Tryd.results113, go_sem, e0, e1]) rfl ?_
          exact .inl ⟨x, HX.out, ⟨_, _, rfl⟩, HE.out.far H.out mF, Mod.far HM2.out mF⟩
        · have HX := Lib.hid (show partR R.S k agg = .ok (⟨tk, tt⟩, k2, agg) by rw [HAZ.out, hx]; rfl)
          have HB2 := Lib.hid (hM2.at HB1.out (H.out.nch (Nat.le_refl _)))
          have HM2 := Lib.hid (HM1.out.trans hM2)
          have HS := Lib.hid hS
          unfold tmV
          clear hx hS hM2 HTM
          have c0 := cell_at (j := 0) HB2.out rfl
          have c1 := cell_at (j := 1) HB2.out rfl
          have f0 : (w2).frozen? ⟨w.heap.size, 0, none⟩ = false := frozen_at HB2.out
          have f1 : (w2).frozen? ⟨w.heap.size, 1, none⟩ = false := frozen_at HB2.out
          go_wp2_with fail
          obtain ⟨w9, hw9⟩ : ∃ w9, w9 = (((w2).setCell ⟨w.heap.size, 0, none⟩ (.int .i64 tk)).setCell ⟨w.heap.size, 1, none⟩ (.string tt)) := ⟨_, rfl⟩
          have b9 : w9.heap[w.heap.size]? = some (.cells #[.int .i64 tk, .string tt] 60 (0, 0)) := by rw [hw9]; exact heap_setCell_at (j := 1) (.string tt) (heap_setCell_at (j := 0) (.int .i64 tk) HB2.out)
          have m9 : Mod (fun b => b = w.heap.size) (w2) w9 := by rw [hw9]; exact ((Mod.refl (fun b => b = w.heap.size) _).setCell (p := ⟨w.heap.size, 0, none⟩) (fun _ => rfl) _).setCell (p := ⟨w.heap.size, 1, none⟩) (fun _ => rfl) _
          have mF : Mod (Far w) (w2) w9 := m9.mono fun _ _ e => Nat.le_of_eq e.symm
          rw [← hw9]
          clear hw9
          have e0 := cell_at (j := 0) b9 rfl
          have e1 := cell_at (j := 1) b9 rfl
          refine bodyPost_ret (v := .tuple #[.agg #[.int .i64 tk, .string tt], .bool true]) (by simp [results, Tryd.results113, go_sem, e0, e1]) rfl ?_
          exact .inr ⟨_, HX.out, ⟨rfl, H.out.far HS.out mF⟩, Mod.far HM2.out mF⟩
      · skip
        refine wp_region_ord (fun w' => w'.cell? ⟨R.b, 0, none⟩ = some (.slice (some ⟨lb, lo, none⟩) (R.S.ts.length + 1) R.lc) ∧ w'.cell? ⟨R.b, 2, none⟩ = some (.int .i64 k) ∧ w'.cell? ⟨lb, lo + (k + 1) * 3, none⟩ = some (.int .i64 4) ∧ w'.cell? ⟨R.b, 5, none⟩ = some (.bool true)) [(0, 0), (3, 1), (0, 2), (0, 3), (0, 4), (0, 5), (0, 6), (1, 7), (0, 8), (0, 9), (0, 10), (1, 11), (0, 12), (0, 13), (0, 14), (1, 15), (0, 16), (0, 17), (0, 18), (0, 19), (0, 20), (0, 21), (1, 22), (0, 23), (0, 24)] (by kernel_rfl) (by kernel_rfl) ?_
        go_wp2_with (first
          | (refine ord_pure rfl rfl rfl (fun K hK => ?_); go_big_quiet_op; refine hK _ ?_; clear hK K)
                        | (refine ord_skip rfl rfl ?_; simp only [Act.put, List.setIfInBounds_toArray, List.set_cons_zero, List.set_cons_succ])
                        | (refine ord_held rfl rfl rfl (trivial) (fun K hK => ?_); apply Exists.intro; refine ⟨fun w' hs => ?_, hK _ ?_⟩; (revert hs; dsimp only; (try simp only [and_imp]); intros; go_simp; rfl); clear hK K)
                        | (refine ord_keep rfl rfl (trivial) (fun K hK => ?_))
                        | (refine ord_drop rfl rfl (fun K hK => ?_))
                        | (refine ord_nil ?_))
        refine (HKD.out _ M0.out.drew).mono ?_
        rintro e w1 ⟨rfl, hM⟩
        have HS1 := Lib.hid (H.out.mod0 (M0.out.drew.trans hM))
        have HB1 := Lib.hid (hM.at (w := (w.alloc (.cells #[.int .i64 0, .string ⟨#[]⟩] 60)).drew) HB0.out id)
        have HM1 := Lib.hid ((M0.out.drew.trans hM).mono (T := R.Ch) fun _ _ f => f.elim)
        have q0 := HS1.out.bk.c0
        have q2 := HS1.out.bk.c2
        have q5 := HS1.out.bk.c5
        rw [hla] at q0
        obtain ⟨lb', lo', hla', x0, x1, x2⟩ := rtok_at (i := k + 1) HS1.out.bk.rd hlt
        rw [hla] at hla'; cases hla'
        rw [← HK4.out] at x0
        clear hM
        go_wp2_with (first
          | (refine ord_pure rfl rfl rfl (fun K hK => ?_); go_big_quiet_op; refine hK _ ?_; clear hK K)
                        | (refine ord_skip rfl rfl ?_; simp only [Act.put, List.setIfInBounds_toArray, List.set_cons_zero, List.set_cons_succ])
                        | (refine ord_held rfl rfl rfl (⟨by simpa using q0, by simpa using q2, by simpa using x0, by simpa using q5⟩) (fun K hK => ?_); apply Exists.intro; refine ⟨fun w' hs => ?_, hK _ ?_⟩; (revert hs; dsimp only; (try simp only [and_imp]); intros; go_simp; rfl); clear hK K)
                        | (refine ord_keep rfl rfl (⟨by simpa using q0, by simpa using q2, by simpa using x0, by simpa using q5⟩) (fun K hK => ?_))
                        | (refine ord_drop rfl rfl (fun K hK => ?_))
                        | (refine ord_nil ?_))
        have HTM := Lib.hid (refTerm_any R k true w1 HS1.out)
        go_wp2_with fail
        refine HTM.out.mono ?_
        rintro e w2 (⟨x, hx, ⟨jk, js, rfl⟩, hE, hM2⟩ | ⟨⟨⟨tk, tt⟩, k2⟩, hx, ⟨rfl, hS⟩, hM2⟩)
        · have HX := Lib.hid (show partR R.S k true = .error x by rw [HAZ.out, hx]; rfl)
          have HB2 := Lib.hid (hM2.at HB1.out (H.out.nch (Nat.le_refl _)))
          have HM2 := Lib.hid (HM1.out.trans hM2)
          have HE := Lib.hid hE
          clear hx hE hM2 HTM
          have c0 := cell_at (j := 0) HB2.out rfl
          have c1 := cell_at (j := 1) HB2.out rfl
          have f0 : (w2).frozen? ⟨w.heap.size, 0, none⟩ = false := frozen_at HB2.out
          have f1 : (w2).frozen? ⟨w.heap.size, 1, none⟩ = false := frozen_at HB2.out
          go_wp2_with fail
          obtain ⟨w9, hw9⟩ : ∃ w9, w9 = (((w2).setCell ⟨w.heap.size, 0, none⟩ (.int .i64 jk)).setCell ⟨w.heap.size, 1, none⟩ (.string js)) := ⟨_, rfl⟩
          have b9 : w9.heap[w.heap.size]? = some (.cells #[.int .i64 jk, .string js] 60 (0, 0)) := by rw [hw9]; exact heap_setCell_at (j := 1) (.string js) (heap_setCell_at (j := 0) (.int .i64 jk) HB2.out)
          have m9 : Mod (fun b => b = w.heap.size) (w2) w9 := by rw [hw9]; exact ((Mod.refl (fun b => b = w.heap.size) _).setCell (p := ⟨w.heap.size, 0, none⟩) (fun _ => rfl) _).setCell (p := ⟨w.heap.size, 1, none⟩) (fun _ => rfl) _
          have mF : Mod (Far w) (w2) w9 := m9.mono fun _ _ e => Nat.le_of_eq e.symm
          rw [← hw9]
          clear hw9
          have e0 := cell_at (j := 0) b9 rfl
          have e1 := cell_at (j := 1) b9 rfl
          refine bodyPost_ret (v := .tuple #[.agg #[.int .i64 jk, .string js], .bool false]) (by simp [results, Tryd.results113, go_sem, e0, e1]) rfl ?_
          exact .inl ⟨x, HX.out, ⟨_, _, rfl⟩, HE.out.far H.out mF, Mod.far HM2.out mF⟩
        · have HX := Lib.hid (show partR R.S k true = .ok (⟨tk, tt⟩, k2, true) by rw [HAZ.out, hx]; rfl)
          have HB2 := Lib.hid (hM2.at HB1.out (H.out.nch (Nat.le_refl _)))
          have HM2 := Lib.hid (HM1.out.trans hM2)
          have HS := Lib.hid hS
          unfold tmV
          clear hx hS hM2 HTM
          have c0 := cell_at (j := 0) HB2.out rfl
          have c1 := cell_at (j := 1) HB2.out rfl
          have f0 : (w2).frozen? ⟨w.heap.size, 0, none⟩ = false := frozen_at HB2.out
          have f1 : (w2).frozen? ⟨w.heap.size, 1, none⟩ = false := frozen_at HB2.out
          go_wp2_with fail
          obtain ⟨w9, hw9⟩ : ∃ w9, w9 = (((w2).setCell ⟨w.heap.size, 0, none⟩ (.int .i64 tk)).setCell ⟨w.heap.size, 1, none⟩ (.string tt)) := ⟨_, rfl⟩
          have b9 : w9.heap[w.heap.size]? = some (.cells #[.int .i64 tk, .string tt] 60 (0, 0)) := by rw [hw9]; exact heap_setCell_at (j := 1) (.string tt) (heap_setCell_at (j := 0) (.int .i64 tk) HB2.out)
          have m9 : Mod (fun b => b = w.heap.size) (w2) w9 := by rw [hw9]; exact ((Mod.refl (fun b => b = w.heap.size) _).setCell (p := ⟨w.heap.size, 0, none⟩) (fun _ => rfl) _).setCell (p := ⟨w.heap.size, 1, none⟩) (fun _ => rfl) _
          have mF : Mod (Far w) (w2) w9 := m9.mono fun _ _ e => Nat.le_of_eq e.symm
          rw [← hw9]
          clear hw9
          have e0 := cell_at (j := 0) b9 rfl
          have e1 := cell_at (j := 1) b9 rfl
          refine bodyPost_ret (v := .tuple #[.agg #[.int .i64 tk, .string tt], .bool true]) (by simp [results, Tryd.results113, go_sem, e0, e1]) rfl ?_
          exact .inr ⟨_, HX.out, ⟨rfl, H.out.far HS.out mF⟩, Mod.far HM2.out mF⟩
    · obtain ⟨lb, lo, hla, -⟩ := rtok_at H.out.bk.rd H.out.le
      refine wp_region_ord (fun w' => w'.cell? ⟨R.b, 0, none⟩ = some (.slice (some ⟨lb, lo, none⟩) (R.S.ts.length + 1) R.lc) ∧ w'.cell? ⟨R.b, 2, none⟩ = some (.int .i64 k) ∧ w'.cell? ⟨lb, lo + (k + 1) * 3, none⟩ = some (.int .i64 4) ∧ w'.cell? ⟨R.b, 5, none⟩ = some (.bool false)) [(0, 0), (3, 1), (0, 2), (0, 3), (0, 4), (0, 5), (0, 6), (1, 7), (0, 8), (0, 9), (0, 10), (1, 11), (0, 12), (0, 13), (0, 14), (1, 15), (0, 16), (0, 17), (0, 18), (0, 19), (0, 20), (0, 21), (1, 22), (0, 23), (0, 24)] (by kernel_rfl) (by kernel_rfl) ?_
      go_wp2_with (first
        | (refine ord_pure rfl rfl rfl (fun K hK => ?_); go_big_quiet_op; refine hK _ ?_; clear hK K)
                        | (refine ord_skip rfl rfl ?_; simp only [Act.put, List.setIfInBounds_toArray, List.set_cons_zero, List.set_cons_succ])
                        | (refine ord_held rfl rfl rfl (trivial) (fun K hK => ?_); apply Exists.intro; refine ⟨fun w' hs => ?_, hK _ ?_⟩; (revert hs; dsimp only; (try simp only [and_imp]); intros; go_simp; rfl); clear hK K)
                        | (refine ord_keep rfl rfl (trivial) (fun K hK => ?_))
                        | (refine ord_drop rfl rfl (fun K hK => ?_))
                        | (refine ord_nil ?_))
      refine (HKD.out _ M0.out.drew).mono ?_
      rintro e w1 ⟨rfl, hM⟩
      have HS1 := Lib.hid (H.out.mod0 (M0.out.drew.trans hM))
      have HB1 := Lib.hid (hM.at (w := (w.alloc (.cells #[.int .i64 0, .string ⟨#[]⟩] 60)).drew) HB0.out id)
      have HM1 := Lib.hid ((M0.out.drew.trans hM).mono (T := R.Ch) fun _ _ f => f.elim)
      have q0 := HS1.out.bk.c0
      have q2 := HS1.out.bk.c2
      have q5 := HS1.out.bk.c5
      rw [hla] at q0
      obtain ⟨lb', lo', hla', x0, x1, x2⟩ := rtok_at (i := k + 1) HS1.out.bk.rd hlt
      rw [hla] at hla'; cases hla'
      rw [← HK4.out] at x0
      clear hM
      go_wp2_with (first
        | (refine ord_pure rfl rfl rfl (fun K hK => ?_); go_big_quiet_op; refine hK _ ?_; clear hK K)
                        | (refine ord_skip rfl rfl ?_; simp only [Act.put, List.setIfInBounds_toArray, List.set_cons_zero, List.set_cons_succ])
                        | (refine ord_held rfl rfl rfl (⟨by simpa using q0, by simpa using q2, by simpa using x0, by simpa using q5⟩) (fun K hK => ?_); apply Exists.intro; refine ⟨fun w' hs => ?_, hK _ ?_⟩; (revert hs; dsimp only; (try simp only [and_imp]); intros; go_simp; rfl); clear hK K)
                        | (refine ord_keep rfl rfl (⟨by simpa using q0, by simpa using q2, by simpa using x0, by simpa using q5⟩) (fun K hK => ?_))
                        | (refine ord_drop rfl rfl (fun K hK => ?_))
                        | (refine ord_nil ?_))
      obtain ⟨lb', lo', hla', y0, y1, y2⟩ := rtok_at (i := k) HS1.out.bk.rd H.out.le
      rw [hla] at hla'; cases hla'
      have hHA := show aggAt R.S k false = aggL (R.S.tok k).text by
        unfold aggAt
        have h4 := kindI_pos (c := 4) (by omega) HK4.out.symm
        rw [if_pos ⟨by have := HK1.out.2.1; omega, by omega, rfl⟩]
      have HHA := Lib.hid hHA
      have hlt4 := (kindI_pos (c := 4) (by omega) HK4.out.symm).2.2
      obtain ⟨s, hs⟩ : ∃ s, s = (R.S.tok k).text := ⟨_, rfl⟩
      rw [← hs] at y1 HHA
      clear hHA x0 x1 x2 y0 y2 hs q5
      refine wp_region_ord (fun w' => w'.cell? ⟨R.b, 0, none⟩ = some (.slice (some ⟨lb, lo, none⟩) (R.S.ts.length + 1) R.lc) ∧ w'.cell? ⟨R.b, 2, none⟩ = some (.int .i64 k) ∧ w'.cell? ⟨lb, lo + k * 3 + 1, none⟩ = some (.string s)) [(0, 0), (0, 1), (0, 2), (1, 3), (0, 4), (0, 5), (0, 6), (1, 7), (0, 8), (0, 9), (1, 10), (3, 11), (0, 12)] (by kernel_rfl) (by kernel_rfl) ?_
      go_wp2_with (first
        | (refine ord_pure rfl rfl rfl (fun K hK => ?_); go_big_quiet_op; refine hK _ ?_; clear hK K)
                        | (refine ord_skip rfl rfl ?_; simp only [Act.put, List.setIfInBounds_toArray, List.set_cons_zero, List.set_cons_succ])
                        | (refine ord_held rfl rfl rfl (⟨by simpa using q0, by simpa using q2, by simpa using y1⟩) (fun K hK => ?_); apply Exists.intro; refine ⟨fun w' hs => ?_, hK _ ?_⟩; (revert hs; dsimp only; (try simp only [and_imp]); intros; go_simp; rfl); clear hK K)
                        | (refine ord_keep rfl rfl (⟨by simpa using q0, by simpa using q2, by simpa using y1⟩) (fun K hK => ?_))
                        | (refine ord_drop rfl rfl (fun K hK => ?_))
                        | (refine ord_nil ?_))
      refine (refAggregate_any s _).mono ?_
      rintro e v2 ⟨rfl, hM⟩
      have mD := ((Mod.refl (fun _ => False) w1).drew).trans hM
      have HS2 := Lib.hid (HS1.out.mod0 mD)
      have HB2' := Lib.hid (mD.at HB1.out id)
      have HM2' := Lib.hid (HM1.out.trans (mD.mono fun _ _ f => f.elim))
      clear hM mD HS1 HB1 HM1 q0 q2 y1
      obtain ⟨n, hn⟩ : ∃ n, n = aggL s := ⟨_, rfl⟩
      rw [← hn] at HHA ⊢
      have hnr : n = 0 ∨ n = 4 ∨ (5 ≤ n ∧ n ≤ 7) := by
        rw [hn]; unfold aggL
        repeat' split
        all_goals omega
      clear hn
      rcases hnr with rfl | hnr
      · have HAZ := Lib.hid (show partR R.S k false = (termP R.S k).bind fun r => .ok (r.1, r.2, false) by unfold partR; rw [if_pos HHA.out])
        have HS1 := HS2; have HB1 := HB2'; have HM1 := HM2'
        clear HS2 HB2' HM2'
        go_wp2_with (first
          | (refine ord_pure rfl rfl rfl (fun K hK => ?_); go_big_quiet_op; refine hK _ ?_; clear hK K)
                        | (refine ord_skip rfl rfl ?_; simp only [Act.put, List.setIfInBounds_toArray, List.set_cons_zero, List.set_cons_succ])
                        | (refine ord_held rfl rfl rfl (trivial) (fun K hK => ?_); apply Exists.intro; refine ⟨fun w' hs => ?_, hK _ ?_⟩; (revert hs; dsimp only; (try simp only [and_imp]); intros; go_simp; rfl); clear hK K)
                        | (refine ord_keep rfl rfl (trivial) (fun K hK => ?_))
                        | (refine ord_drop rfl rfl (fun K hK => ?_))
                        | (refine ord_nil ?_))
        have HTM := Lib.hid (refTerm_any R k false v2 HS1.out)
        go_wp2_with fail
        refine HTM.out.mono ?_
        rintro e w2 (⟨x, hx, ⟨jk, js, rfl⟩, hE, hM2⟩ | ⟨⟨⟨tk, tt⟩, k2⟩, hx, ⟨rfl, hS⟩, hM2⟩)
        · have HX := Lib.hid (show partR R.S k false = .error x by rw [HAZ.out, hx]; rfl)
          have HB2 := Lib.hid (hM2.at HB1.out (H.out.nch (Nat.le_refl _)))
          have HM2 := Lib.hid (HM1.out.trans hM2)
          have HE := Lib.hid hE
          clear hx hE hM2 HTM
          have c0 := cell_at (j := 0) HB2.out rfl
          have c1 := cell_at (j := 1) HB2.out rfl
          have f0 : (w2).frozen? ⟨w.heap.size, 0, none⟩ = false := frozen_at HB2.out
          have f1 : (w2).frozen? ⟨w.heap.size, 1, none⟩ = false := frozen_at HB2.out
          go_wp2_with fail
          obtain ⟨w9, hw9⟩ : ∃ w9, w9 = (((w2).setCell ⟨w.heap.size, 0, none⟩ (.int .i64 jk)).setCell ⟨w.heap.size, 1, none⟩ (.string js)) := ⟨_, rfl⟩
          have b9 : w9.heap[w.heap.size]? = some (.cells #[.int .i64 jk, .string js] 60 (0, 0)) := by rw [hw9]; exact heap_setCell_at (j := 1) (.string js) (heap_setCell_at (j := 0) (.int .i64 jk) HB2.out)
          have m9 : Mod (fun b => b = w.heap.size) (w2) w9 := by rw [hw9]; exact ((Mod.refl (fun b => b = w.heap.size) _).setCell (p := ⟨w.heap.size, 0, none⟩) (fun _ => rfl) _).setCell (p := ⟨w.heap.size, 1, none⟩) (fun _ => rfl) _
          have mF : Mod (Far w) (w2) w9 := m9.mono fun _ _ e => Nat.le_of_eq e.symm
          rw [← hw9]
          clear hw9
          have e0 := cell_at (j := 0) b9 rfl
          have e1 := cell_at (j := 1) b9 rfl
          refine bodyPost_ret (v := .tuple #[.agg #[.int .i64 jk, .string js], .bool false]) (by simp [results, Tryd.results113, go_sem, e0, e1]) rfl ?_
          exact .inl ⟨x, HX.out, ⟨_, _, rfl⟩, HE.out.far H.out mF, Mod.far HM2.out mF⟩
        · have HX := Lib.hid (show partR R.S k false = .ok (⟨tk, tt⟩, k2, false) by rw [HAZ.out, hx]; rfl)
          have HB2 := Lib.hid (hM2.at HB1.out (H.out.nch (Nat.le_refl _)))
          have HM2 := Lib.hid (HM1.out.trans hM2)
          have HS := Lib.hid hS
          unfold tmV
          clear hx hS hM2 HTM
          have c0 := cell_at (j := 0) HB2.out rfl
          have c1 := cell_at (j := 1) HB2.out rfl
          have f0 : (w2).frozen? ⟨w.heap.size, 0, none⟩ = false := frozen_at HB2.out
          have f1 : (w2).frozen? ⟨w.heap.size, 1, none⟩ = false := frozen_at HB2.out
          go_wp2_with fail
          obtain ⟨w9, hw9⟩ : ∃ w9, w9 = (((w2).setCell ⟨w.heap.size, 0, none⟩ (.int .i64 tk)).setCell ⟨w.heap.size, 1, none⟩ (.string tt)) := ⟨_, rfl⟩
          have b9 : w9.heap[w.heap.size]? = some (.cells #[.int .i64 tk, .string tt] 60 (0, 0)) := by rw [hw9]; exact heap_setCell_at (j := 1) (.string tt) (heap_setCell_at (j := 0) (.int .i64 tk) HB2.out)
          have m9 : Mod (fun b => b = w.heap.size) (w2) w9 := by rw [hw9]; exact ((Mod.refl (fun b => b = w.heap.size) _).setCell (p := ⟨w.heap.size, 0, none⟩) (fun _ => rfl) _).setCell (p := ⟨w.heap.size, 1, none⟩) (fun _ => rfl) _
          have mF : Mod (Far w) (w2) w9 := m9.mono fun _ _ e => Nat.le_of_eq e.symm
          rw [← hw9]
          clear hw9
          have e0 := cell_at (j := 0) b9 rfl
          have e1 := cell_at (j := 1) b9 rfl
          refine bodyPost_ret (v := .tuple #[.agg #[.int .i64 tk, .string tt], .bool true]) (by simp [results, Tryd.results113, go_sem, e0, e1]) rfl ?_
          exact .inr ⟨_, HX.out, ⟨rfl, H.out.far HS.out mF⟩, Mod.far HM2.out mF⟩
      · have a5 := HS2.out.bk.c5
        have a5f := HS2.out.bk.fz 5
        obtain ⟨h5, m5⟩ := HS2.out.bk.set (j := 5) (u := .bool true) (i' := k) (e' := 0) (at' := 0) (agg' := true) rfl
        have a2 := h5.c2
        have a2f := h5.fz 2
        obtain ⟨h6, m6⟩ := h5.set (j := 2) (u := .int .i64 ((k : Int) + 2)) (i' := k + 2) (e' := 0) (at' := 0) (agg' := true) rfl
        have m56 := m5.trans m6
        have b6 := m56.at HB2'.out (H.out.nch (Nat.le_refl _))
        have m7 : Mod (fun _ => False) ((v2.setCell ⟨R.b, 5, none⟩ (.bool true)).setCell ⟨R.b, 2, none⟩ (.int .i64 ((k : Int) + 2))) (((v2.setCell ⟨R.b, 5, none⟩ (.bool true)).setCell ⟨R.b, 2, none⟩ (.int .i64 ((k : Int) + 2))).alloc (.cells #[.int .i64 n, .string ⟨#[]⟩] 60)) := (Mod.refl _ _).alloc _
        have b7 := m7.at b6 id
        have x7 := heap_alloc_new ((v2.setCell ⟨R.b, 5, none⟩ (.bool true)).setCell ⟨R.b, 2, none⟩ (.int .i64 ((k : Int) + 2))) (.cells #[.int .i64 n, .string ⟨#[]⟩] 60)
        have hzz : ((v2.setCell ⟨R.b, 5, none⟩ (.bool true)).setCell ⟨R.b, 2, none⟩ (.int .i64 ((k : Int) + 2))).heap.size = v2.heap.size := by simp
        rw [hzz] at x7
        have hS7 : RSt _ R (k + 2) true := ⟨h6.mod0 m7, by omega⟩
        have hM7 := (HM2'.out.trans m56).trans (m7.mono fun _ _ f => f.elim)
        obtain ⟨v7, hv7⟩ : ∃ v7, v7 = (((v2.setCell ⟨R.b, 5, none⟩ (.bool true)).setCell ⟨R.b, 2, none⟩ (.int .i64 ((k : Int) + 2))).alloc (.cells #[.int .i64 n, .string ⟨#[]⟩] 60)) := ⟨_, rfl⟩
        rw [← hv7] at b7 x7 hS7 hM7
        have HV7 := Lib.hid hv7
        have hgl : w.heap.size < v2.heap.size := (Array.getElem?_eq_some_iff.1 HB2'.out).1
        have HZ7 := Lib.hid (show v7.heap.size = v2.heap.size + 1 by rw [hv7]; simp)
        obtain ⟨g5, hg5⟩ : ∃ g5, g5 = v2.heap.size := ⟨_, rfl⟩
        have HG5 := Lib.hid hg5
        rw [← hg5] at x7 hgl
        have H7 := Lib.hid (And.intro hS7 (And.intro hM7 (And.intro b7 x7)))
        clear h5 m5 h6 m6 m56 b6 m7 b7 x7 hzz hS7 hM7 hv7 hg5 HB2' HM2' HS2
        have hn2 : 4 ≤ n ∧ n ≤ 7 := by omega
        obtain ⟨hn2, hn3⟩ := hn2
        clear hnr
        by_cases hn4 : n ≤ 4
        · have HP := Lib.hid (show partR R.S k false = (wordP R.S (k + 2) [5]).bind fun z => .ok (⟨n, emptyB⟩, z.2, true) by
            have : n = 4 := by omega
            subst this
            unfold partR; rw [HHA.out, if_neg (by omega), if_pos rfl]; rfl)
          have HT5 := Lib.hid (take1 R (k + 2) true 5 v7 H7.out.1 (by omega) v7.heap.size 5)
          go_wp2_with (first
            | (refine ord_pure rfl rfl rfl (fun K hK => ?_); go_big_quiet_op; refine hK _ ?_; clear hK K)
                        | (refine ord_skip rfl rfl ?_; simp only [Act.put, List.setIfInBounds_toArray, List.set_cons_zero, List.set_cons_succ])
                        | (refine ord_held rfl rfl rfl (trivial) (fun K hK => ?_); apply Exists.intro; refine ⟨fun w' hs => ?_, hK _ ?_⟩; (revert hs; dsimp only; (try simp only [and_imp]); intros; go_simp; rfl); clear hK K)
                        | (refine ord_keep rfl rfl (trivial) (fun K hK => ?_))
                        | (refine ord_drop rfl rfl (fun K hK => ?_))
                        | (refine ord_nil ?_))
          go_wp2_with fail
          rw [← HV7.out, ← HZ7.out, ← HG5.out]
          clear HV7 HZ7 HG5 a5 a5f a2 a2f
          refine HT5.out.mono ?_
          rintro e w2 (⟨x, hx, rfl, hE, hM2⟩ | ⟨⟨z, k3⟩, hx, ⟨rfl, hS⟩, hM2⟩)
          · have HX := Lib.hid (show partR R.S k false = .error x by rw [HP.out, hx]; rfl)
            have HE := Lib.hid hE
            have HB2 := Lib.hid (hM2.at H7.out.2.2.1 (H.out.nch (Nat.le_refl _)))
            have hx7 := hM2.at H7.out.2.2.2 (H.out.nch (Nat.le_of_lt hgl))
            have d0 := cell_at (j := 0) hx7 rfl
            have d1 := cell_at (j := 1) hx7 rfl
            have HM2 := Lib.hid (H7.out.2.1.trans hM2)
            clear hx hE hM2 hx7 HT5
            have c0 := cell_at (j := 0) HB2.out rfl
            have c1 := cell_at (j := 1) HB2.out rfl
            have f0 : (w2).frozen? ⟨w.heap.size, 0, none⟩ = false := frozen_at HB2.out
            have f1 : (w2).frozen? ⟨w.heap.size, 1, none⟩ = false := frozen_at HB2.out
            go_wp2_with fail
            obtain ⟨w9, hw9⟩ : ∃ w9, w9 = (((w2).setCell ⟨w.heap.size, 0, none⟩ (.int .i64 n)).setCell ⟨w.heap.size, 1, none⟩ (.string ⟨#[]⟩)) := ⟨_, rfl⟩
            have b9 : w9.heap[w.heap.size]? = some (.cells #[.int .i64 n, .string ⟨#[]⟩] 60 (0, 0)) := by rw [hw9]; exact heap_setCell_at (j := 1) (.string ⟨#[]⟩) (heap_setCell_at (j := 0) (.int .i64 n) HB2.out)
            have m9 : Mod (fun b => b = w.heap.size) (w2) w9 := by rw [hw9]; exact ((Mod.refl (fun b => b = w.heap.size) _).setCell (p := ⟨w.heap.size, 0, none⟩) (fun _ => rfl) _).setCell (p := ⟨w.heap.size, 1, none⟩) (fun _ => rfl) _
            have mF : Mod (Far w) (w2) w9 := m9.mono fun _ _ e => Nat.le_of_eq e.symm
            rw [← hw9]
            clear hw9
            have e0 := cell_at (j := 0) b9 rfl
            have e1 := cell_at (j := 1) b9 rfl
            refine bodyPost_ret (v := .tuple #[.agg #[.int .i64 n, .string ⟨#[]⟩], .bool false]) (by simp [results, Tryd.results113, go_sem, e0, e1]) rfl ?_
            exact .inl ⟨x, HX.out, ⟨_, _, rfl⟩, HE.out.far H.out mF, Mod.far HM2.out mF⟩
          · have HX := Lib.hid (show partR R.S k false = .ok (⟨n, ⟨#[]⟩⟩, k3, true) by rw [HP.out, hx]; rfl)
            have HS := Lib.hid hS
            have HB2 := Lib.hid (hM2.at H7.out.2.2.1 (H.out.nch (Nat.le_refl _)))
            have hx7 := hM2.at H7.out.2.2.2 (H.out.nch (Nat.le_of_lt hgl))
            have d0 := cell_at (j := 0) hx7 rfl
            have d1 := cell_at (j := 1) hx7 rfl
            have HM2 := Lib.hid (H7.out.2.1.trans hM2)
            clear hx hS hM2 hx7 HT5
            have c0 := cell_at (j := 0) HB2.out rfl
            have c1 := cell_at (j := 1) HB2.out rfl
            have f0 : (w2).frozen? ⟨w.heap.size, 0, none⟩ = false := frozen_at HB2.out
            have f1 : (w2).frozen? ⟨w.heap.size, 1, none⟩ = false := frozen_at HB2.out
            go_wp2_with fail
            obtain ⟨w9, hw9⟩ : ∃ w9, w9 = (((w2).setCell ⟨w.heap.size, 0, none⟩ (.int .i64 n)).setCell ⟨w.heap.size, 1, none⟩ (.string ⟨#[]⟩)) := ⟨_, rfl⟩
            have b9 : w9.heap[w.heap.size]? = some (.cells #[.int .i64 n, .string ⟨#[]⟩] 60 (0, 0)) := by rw [hw9]; exact heap_setCell_at (j := 1) (.string ⟨#[]⟩) (heap_setCell_at (j := 0) (.int .i64 n) HB2.out)
            have m9 : Mod (fun b => b = w.heap.size) (w2) w9 := by rw [hw9]; exact ((Mod.refl (fun b => b = w.heap.size) _).setCell (p := ⟨w.heap.size, 0, none⟩) (fun _ => rfl) _).setCell (p := ⟨w.heap.size, 1, none⟩) (fun _ => rfl) _
            have mF : Mod (Far w) (w2) w9 := m9.mono fun _ _ e => Nat.le_of_eq e.symm
            rw [← hw9]
            clear hw9
            have e0 := cell_at (j := 0) b9 rfl
            have e1 := cell_at (j := 1) b9 rfl
            refine bodyPost_ret (v := .tuple #[.agg #[.int .i64 n, .string ⟨#[]⟩], .bool true]) (by simp [results, Tryd.results113, go_sem, e0, e1]) rfl ?_
            exact .inr ⟨_, HX.out, ⟨rfl, H.out.far HS.out mF⟩, Mod.far HM2.out mF⟩
        · have HP := Lib.hid (show partR R.S k false = (if R.S.bad (k + 2) = false ∧ (R.S.tok (k + 2)).kind = 2 ∧ (R.S.tok (k + 2)).text = blankB then .error (80, (R.S.tok (k + 2)).at_)
            else (wordP R.S (k + 2) [2]).bind fun q => (wordP R.S q.2 [5]).bind fun z => .ok (⟨n, q.1⟩, z.2, true)) by
            unfold partR; rw [HHA.out, if_neg (by omega), if_neg (by omega)])
          obtain ⟨lb', lo', hla', y0, y1, y2⟩ := rtok_at (i := k + 2) H7.out.1.bk.rd H7.out.1.le
          rw [hla] at hla'; cases hla'
          have q0 := H7.out.1.bk.c0
          have q2 := H7.out.1.bk.c2
          rw [hla] at q0
          have HKD7 : Hid (∀ W, Mod (fun _ => False) v7 W → Calls Tryd.prog 52 #[.pointer (some ⟨R.b, 0, none⟩)] W fun e w' => e = .returned (.int .i64 (kindI R.S (k + 2))) ∧ Mod (fun _ => False) W w') := fun W m => (H7.out.1.mod0 m).kindC
          obtain ⟨tx, htx⟩ : ∃ tx, tx = (R.S.tok (k + 2)).text := ⟨_, rfl⟩
          obtain ⟨kd, hkd⟩ : ∃ kd, kd = kindI R.S (k + 2) := ⟨_, rfl⟩
          rw [← hkd] at HKD7
          rw [← htx] at y1 HP
          have HKE := Lib.hid hkd
          have HTX := Lib.hid htx
          clear hkd htx y0 y2
          by_cases hc : kd = 2 ∧ tx = blankB
          · have HX := Lib.hid (show partR R.S k false = .error (wrongR R.S (k + 2) 80) by
              have h2 := kindI_pos (c := 2) (by omega) (HKE.out.symm.trans hc.1)
              rw [HP.out, if_pos ⟨h2.1, by omega, hc.2⟩]
              unfold wrongR; rw [h2.1]; rfl)
            obtain ⟨rfl, hc2⟩ := hc
            unfold blankB at hc2
            subst hc2
            go_wp2_with (first
              | (refine ord_pure rfl rfl rfl (fun K hK => ?_); go_big_quiet_op; refine hK _ ?_; clear hK K)
                        | (refine ord_skip rfl rfl ?_; simp only [Act.put, List.setIfInBounds_toArray, List.set_cons_zero, List.set_cons_succ])
                        | (refine ord_held rfl rfl rfl (trivial) (fun K hK => ?_); apply Exists.intro; refine ⟨fun w' hs => ?_, hK _ ?_⟩; (revert hs; dsimp only; (try simp only [and_imp]); intros; go_simp; rfl); clear hK K)
                        | (refine ord_keep rfl rfl (trivial) (fun K hK => ?_))
                        | (refine ord_drop rfl rfl (fun K hK => ?_))
                        | (refine ord_nil ?_))
            go_wp2_with fail
            rw [← HV7.out]
            clear HV7 HZ7 HG5 a5 a5f a2 a2f
            refine wp_region_ord (fun w' => w'.cell? ⟨R.b, 0, none⟩ = some (.slice (some ⟨lb, lo, none⟩) (R.S.ts.length + 1) R.lc) ∧ w'.cell? ⟨R.b, 2, none⟩ = some (.int .i64 ((k + 2 : Nat) : Int)) ∧ w'.cell? ⟨lb, lo + (k + 2) * 3 + 1, none⟩ = some (.string ⟨#[95]⟩)) [(0, 0), (3, 1), (0, 2), (0, 3), (0, 4), (0, 5), (0, 6), (1, 7), (0, 8), (0, 9), (0, 10), (1, 11), (0, 12), (0, 13), (1, 14), (0, 15), (0, 16)] (by kernel_rfl) (by kernel_rfl) ?_
            go_wp2_with (first
              | (refine ord_pure rfl rfl rfl (fun K hK => ?_); go_big_quiet_op; refine hK _ ?_; clear hK K)
                        | (refine ord_skip rfl rfl ?_; simp only [Act.put, List.setIfInBounds_toArray, List.set_cons_zero, List.set_cons_succ])
                        | (refine ord_held rfl rfl rfl (trivial) (fun K hK => ?_); apply Exists.intro; refine ⟨fun w' hs => ?_, hK _ ?_⟩; (revert hs; dsimp only; (try simp only [and_imp]); intros; go_simp; rfl); clear hK K)
                        | (refine ord_keep rfl rfl (trivial) (fun K hK => ?_))
                        | (refine ord_drop rfl rfl (fun K hK => ?_))
                        | (refine ord_nil ?_))
            refine (HKD7.out _ (Mod.refl _ _).drew).mono ?_
            rintro e v8 ⟨rfl, hM⟩
            have HM8 := Lib.hid (((Mod.refl (fun _ => False) v7).drew).trans hM)
            have q0 := HM8.out.cell q0 id
            have q2 := HM8.out.cell q2 id
            have y1 := HM8.out.cell y1 id
            clear hM
            go_wp2_with (first
              | (refine ord_pure rfl rfl rfl (fun K hK => ?_); go_big_quiet_op; refine hK _ ?_; clear hK K)
                        | (refine ord_skip rfl rfl ?_; simp only [Act.put, List.setIfInBounds_toArray, List.set_cons_zero, List.set_cons_succ])
                        | (refine ord_held rfl rfl rfl (⟨by simpa using q0, by simpa using q2, by simpa using y1⟩) (fun K hK => ?_); apply Exists.intro; refine ⟨fun w' hs => ?_, hK _ ?_⟩; (revert hs; dsimp only; (try simp only [and_imp]); intros; go_simp; rfl); clear hK K)
                        | (refine ord_keep rfl rfl (⟨by simpa using q0, by simpa using q2, by simpa using y1⟩) (fun K hK => ?_))
                        | (refine ord_drop rfl rfl (fun K hK => ?_))
                        | (refine ord_nil ?_))
            go_wp2_with fail
            have hS8 := H7.out.1.mod0 HM8.out
            have HWR := Lib.hid (wrong_any R (k + 2) true 80 _ hS8 (by omega))
            clear hS8
            refine HWR.out.mono ?_
            rintro e v9 ⟨rfl, hE, hM9⟩
            have HE := Lib.hid hE
            have HM9 := Lib.hid ((H7.out.2.1.trans (HM8.out.mono fun _ _ f => f.elim)).trans hM9)
            have HB2 := Lib.hid (hM9.at (HM8.out.at H7.out.2.2.1 id) (H.out.nch (Nat.le_refl _)))
            clear hE hM9
            have c0 := cell_at (j := 0) HB2.out rfl
            have c1 := cell_at (j := 1) HB2.out rfl
            have f0 : (v9).frozen? ⟨w.heap.size, 0, none⟩ = false := frozen_at HB2.out
            have f1 : (v9).frozen? ⟨w.heap.size, 1, none⟩ = false := frozen_at HB2.out
            go_wp2_with fail
            obtain ⟨w9, hw9⟩ : ∃ w9, w9 = (((v9).setCell ⟨w.heap.size, 0, none⟩ (.int .i64 0)).setCell ⟨w.heap.size, 1, none⟩ (.string ⟨#[]⟩)) := ⟨_, rfl⟩
            have b9 : w9.heap[w.heap.size]? = some (.cells #[.int .i64 0, .string ⟨#[]⟩] 60 (0, 0)) := by rw [hw9]; exact heap_setCell_at (j := 1) (.string ⟨#[]⟩) (heap_setCell_at (j := 0) (.int .i64 0) HB2.out)
            have m9 : Mod (fun b => b = w.heap.size) (v9) w9 := by rw [hw9]; exact ((Mod.refl (fun b => b = w.heap.size) _).setCell (p := ⟨w.heap.size, 0, none⟩) (fun _ => rfl) _).setCell (p := ⟨w.heap.size, 1, none⟩) (fun _ => rfl) _
            have mF : Mod (Far w) (v9) w9 := m9.mono fun _ _ e => Nat.le_of_eq e.symm
            rw [← hw9]
            clear hw9
            have e0 := cell_at (j := 0) b9 rfl
            have e1 := cell_at (j := 1) b9 rfl
            refine bodyPost_ret (v := .tuple #[.agg #[.int .i64 0, .string ⟨#[]⟩], .bool false]) (by simp [results, Tryd.results113, go_sem, e0, e1]) rfl ?_
            exact .inl ⟨_, HX.out, ⟨_, _, rfl⟩, HE.out.far H.out mF, Mod.far HM9.out mF⟩
          · have HP2 := Lib.hid (show partR R.S k false = (wordP R.S (k + 2) [2]).bind fun q => (wordP R.S q.2 [5]).bind fun z => .ok (⟨n, q.1⟩, z.2, true) by
              rw [HP.out, if_neg]
              rintro ⟨h1, h2, h3⟩
              exact hc ⟨by rw [HKE.out]; unfold kindI; rw [h1]; simp; omega, h3⟩)
            have hway : (kd == 2) = false ∨ (kd = 2 ∧ (tx.toList == [95]) = false) := by
              by_cases h : kd = 2
              · exact .inr ⟨h, by simpa using toList_ne (l := [95]) (fun e => hc ⟨h, e⟩)⟩
              · exact .inl (by simpa using h)
            clear hc HP
            rcases hway with hkb | ⟨rfl, hne⟩
            all_goals
              go_wp2_with (first
                | (refine ord_pure rfl rfl rfl (fun K hK => ?_); go_big_quiet_op; refine hK _ ?_; clear hK K)
                        | (refine ord_skip rfl rfl ?_; simp only [Act.put, List.setIfInBounds_toArray, List.set_cons_zero, List.set_cons_succ])
                        | (refine ord_held rfl rfl rfl (trivial) (fun K hK => ?_); apply Exists.intro; refine ⟨fun w' hs => ?_, hK _ ?_⟩; (revert hs; dsimp only; (try simp only [and_imp]); intros; go_simp; rfl); clear hK K)
                        | (refine ord_keep rfl rfl (trivial) (fun K hK => ?_))
                        | (refine ord_drop rfl rfl (fun K hK => ?_))
                        | (refine ord_nil ?_))
              go_wp2_with fail
              rw [← HV7.out]
              clear HV7 HZ7 a5 a5f a2 a2f
              refine wp_region_ord (fun w' => w'.cell? ⟨R.b, 0, none⟩ = some (.slice (some ⟨lb, lo, none⟩) (R.S.ts.length + 1) R.lc) ∧ w'.cell? ⟨R.b, 2, none⟩ = some (.int .i64 ((k + 2 : Nat) : Int)) ∧ w'.cell? ⟨lb, lo + (k + 2) * 3 + 1, none⟩ = some (.string tx)) [(0, 0), (3, 1), (0, 2), (0, 3), (0, 4), (0, 5), (0, 6), (1, 7), (0, 8), (0, 9), (0, 10), (1, 11), (0, 12), (0, 13), (1, 14), (0, 15), (0, 16)] (by kernel_rfl) (by kernel_rfl) ?_
              go_wp2_with (first
                | (refine ord_pure rfl rfl rfl (fun K hK => ?_); go_big_quiet_op; refine hK _ ?_; clear hK K)
                        | (refine ord_skip rfl rfl ?_; simp only [Act.put, List.setIfInBounds_toArray, List.set_cons_zero, List.set_cons_succ])
                        | (refine ord_held rfl rfl rfl (trivial) (fun K hK => ?_); apply Exists.intro; refine ⟨fun w' hs => ?_, hK _ ?_⟩; (revert hs; dsimp only; (try simp only [and_imp]); intros; go_simp; rfl); clear hK K)
                        | (refine ord_keep rfl rfl (trivial) (fun K hK => ?_))
                        | (refine ord_drop rfl rfl (fun K hK => ?_))
                        | (refine ord_nil ?_))
              refine (HKD7.out _ (Mod.refl _ _).drew).mono ?_
              rintro e v8 ⟨rfl, hM⟩
              have HM8 := Lib.hid (((Mod.refl (fun _ => False) v7).drew).trans hM)
              have q0 := HM8.out.cell q0 id
              have q2 := HM8.out.cell q2 id
              have y1 := HM8.out.cell y1 id
              clear hM
              go_wp2_with (first
                | (refine ord_pure rfl rfl rfl (fun K hK => ?_); go_big_quiet_op; refine hK _ ?_; clear hK K)
                        | (refine ord_skip rfl rfl ?_; simp only [Act.put, List.setIfInBounds_toArray, List.set_cons_zero, List.set_cons_succ])
                        | (refine ord_held rfl rfl rfl (⟨by simpa using q0, by simpa using q2, by simpa using y1⟩) (fun K hK => ?_); apply Exists.intro; refine ⟨fun w' hs => ?_, hK _ ?_⟩; (revert hs; dsimp only; (try simp only [and_imp]); intros; go_simp; rfl); clear hK K)
                        | (refine ord_keep rfl rfl (⟨by simpa using q0, by simpa using q2, by simpa using y1⟩) (fun K hK => ?_))
                        | (refine ord_drop rfl rfl (fun K hK => ?_))
                        | (refine ord_nil ?_))
              go_wp2_with fail
              rw [← HG5.out]
              clear HG5 q0 q2 y1
              have HT2 := Lib.hid (take1 R (k + 2) true 2 v8 (H7.out.1.mod0 HM8.out) (by omega) v8.heap.size 2)
              refine HT2.out.mono ?_
              rintro e v9 (⟨x, hx, rfl, hE, hM9⟩ | ⟨⟨q, k3⟩, hx, ⟨rfl, hS⟩, hM9⟩)
              · have HX := Lib.hid (show partR R.S k false = .error x by rw [HP2.out, hx]; rfl)
                have HE := Lib.hid hE
                have HB2 := Lib.hid (hM9.at (HM8.out.at H7.out.2.2.1 id) (H.out.nch (Nat.le_refl _)))
                have HM9 := Lib.hid ((H7.out.2.1.trans (HM8.out.mono fun _ _ f => f.elim)).trans hM9)
                clear hx hE hM9 HT2
                have c0 := cell_at (j := 0) HB2.out rfl
                have c1 := cell_at (j := 1) HB2.out rfl
                have f0 : (v9).frozen? ⟨w.heap.size, 0, none⟩ = false := frozen_at HB2.out
                have f1 : (v9).frozen? ⟨w.heap.size, 1, none⟩ = false := frozen_at HB2.out
                go_wp2_with fail
                obtain ⟨w9, hw9⟩ : ∃ w9, w9 = (((v9).setCell ⟨w.heap.size, 0, none⟩ (.int .i64 0)).setCell ⟨w.heap.size, 1, none⟩ (.string ⟨#[]⟩)) := ⟨_, rfl⟩
                have b9 : w9.heap[w.heap.size]? = some (.cells #[.int .i64 0, .string ⟨#[]⟩] 60 (0, 0)) := by rw [hw9]; exact heap_setCell_at (j := 1) (.string ⟨#[]⟩) (heap_setCell_at (j := 0) (.int .i64 0) HB2.out)
                have m9 : Mod (fun b => b = w.heap.size) (v9) w9 := by rw [hw9]; exact ((Mod.refl (fun b => b = w.heap.size) _).setCell (p := ⟨w.heap.size, 0, none⟩) (fun _ => rfl) _).setCell (p := ⟨w.heap.size, 1, none⟩) (fun _ => rfl) _
                have mF : Mod (Far w) (v9) w9 := m9.mono fun _ _ e => Nat.le_of_eq e.symm
                rw [← hw9]
                clear hw9
                have e0 := cell_at (j := 0) b9 rfl
                have e1 := cell_at (j := 1) b9 rfl
                refine bodyPost_ret (v := .tuple #[.agg #[.int .i64 0, .string ⟨#[]⟩], .bool false]) (by simp [results, Tryd.results113, go_sem, e0, e1]) rfl ?_
                exact .inl ⟨_, HX.out, ⟨_, _, rfl⟩, HE.out.far H.out mF, Mod.far HM9.out mF⟩
              · have HP3 := Lib.hid (show partR R.S k false = (wordP R.S k3 [5]).bind fun z => .ok (⟨n, q⟩, z.2, true) by rw [HP2.out, hx]; rfl)
                have hb9 := hM9.at (HM8.out.at H7.out.2.2.1 id) (H.out.nch (Nat.le_refl _))
                have hx9 := hM9.at (HM8.out.at H7.out.2.2.2 id) (H.out.nch (Nat.le_of_lt hgl))
                have d0 := cell_at (j := 0) hx9 rfl
                have d1 := cell_at (j := 1) hx9 rfl
                have p1 : v9.frozen? ⟨g5, 1, none⟩ = false := frozen_at hx9
                have m10 : Mod (fun b => b = g5) v9 (v9.setCell ⟨g5, 1, none⟩ (.string q)) := (Mod.refl (fun b => b = g5) v9).setCell (p := ⟨g5, 1, none⟩) (fun _ => rfl) _
                have mF10 : Mod (Far w) v9 (v9.setCell ⟨g5, 1, none⟩ (.string q)) := m10.mono fun _ _ e => by unfold Far; omega
                have x10 : (v9.setCell ⟨g5, 1, none⟩ (.string q)).heap[g5]? = some (.cells #[.int .i64 n, .string q] 60 (0, 0)) := heap_setCell_at (j := 1) (.string q) hx9
                have H10 := Lib.hid (And.intro (H.out.far hS mF10) (And.intro (Mod.far ((H7.out.2.1.trans (HM8.out.mono fun _ _ f => f.elim)).trans hM9) mF10) (And.intro (m10.at hb9 (by omega)) x10)))
                obtain ⟨v10, hv10⟩ : ∃ v10, v10 = v9.setCell ⟨g5, 1, none⟩ (.string q) := ⟨_, rfl⟩
                have HZ10 := Lib.hid (show v10.heap.size = v9.heap.size by rw [hv10]; simp)
                rw [← hv10] at H10
                have HV10 := Lib.hid hv10
                have HT5 := Lib.hid (take1 R k3 true 5 v10 H10.out.1 (by omega) v10.heap.size 5)
                clear hx hS hM9 HT2 hb9 hx9 m10 mF10 x10 hv10
                go_wp2_with fail
                rw [← HV10.out, ← HZ10.out]
                clear HV10 HZ10 d0 d1 p1
                refine HT5.out.mono ?_
                rintro e w2 (⟨x, hx, rfl, hE, hM2⟩ | ⟨⟨z, k3⟩, hx, ⟨rfl, hS⟩, hM2⟩)
                · have HX := Lib.hid (show partR R.S k false = .error x by rw [HP3.out, hx]; rfl)
                  have HE := Lib.hid hE
                  have HB2 := Lib.hid (hM2.at H10.out.2.2.1 (H.out.nch (Nat.le_refl _)))
                  have hx7 := hM2.at H10.out.2.2.2 (H.out.nch (Nat.le_of_lt hgl))
                  have d0 := cell_at (j := 0) hx7 rfl
                  have d1 := cell_at (j := 1) hx7 rfl
                  have HM2 := Lib.hid (H10.out.2.1.trans hM2)
                  clear hx hE hM2 hx7 HT5
                  have c0 := cell_at (j := 0) HB2.out rfl
                  have c1 := cell_at (j := 1) HB2.out rfl
                  have f0 : (w2).frozen? ⟨w.heap.size, 0, none⟩ = false := frozen_at HB2.out
                  have f1 : (w2).frozen? ⟨w.heap.size, 1, none⟩ = false := frozen_at HB2.out
                  go_wp2_with fail
                  obtain ⟨w9, hw9⟩ : ∃ w9, w9 = (((w2).setCell ⟨w.heap.size, 0, none⟩ (.int .i64 n)).setCell ⟨w.heap.size, 1, none⟩ (.string q)) := ⟨_, rfl⟩
                  have b9 : w9.heap[w.heap.size]? = some (.cells #[.int .i64 n, .string q] 60 (0, 0)) := by rw [hw9]; exact heap_setCell_at (j := 1) (.string q) (heap_setCell_at (j := 0) (.int .i64 n) HB2.out)
                  have m9 : Mod (fun b => b = w.heap.size) (w2) w9 := by rw [hw9]; exact ((Mod.refl (fun b => b = w.heap.size) _).setCell (p := ⟨w.heap.size, 0, none⟩) (fun _ => rfl) _).setCell (p := ⟨w.heap.size, 1, none⟩) (fun _ => rfl) _
                  have mF : Mod (Far w) (w2) w9 := m9.mono fun _ _ e => Nat.le_of_eq e.symm
                  rw [← hw9]
                  clear hw9
                  have e0 := cell_at (j := 0) b9 rfl
                  have e1 := cell_at (j := 1) b9 rfl
                  refine bodyPost_ret (v := .tuple #[.agg #[.int .i64 n, .string q], .bool false]) (by simp [results, Tryd.results113, go_sem, e0, e1]) rfl ?_
                  exact .inl ⟨x, HX.out, ⟨_, _, rfl⟩, HE.out.far H.out mF, Mod.far HM2.out mF⟩
                · have HX := Lib.hid (show partR R.S k false = .ok (⟨n, q⟩, k3, true) by rw [HP3.out, hx]; rfl)
                  have HS := Lib.hid hS
                  have HB2 := Lib.hid (hM2.at H10.out.2.2.1 (H.out.nch (Nat.le_refl _)))
                  have hx7 := hM2.at H10.out.2.2.2 (H.out.nch (Nat.le_of_lt hgl))
                  have d0 := cell_at (j := 0) hx7 rfl
                  have d1 := cell_at (j := 1) hx7 rfl
                  have HM2 := Lib.hid (H10.out.2.1.trans hM2)
                  clear hx hS hM2 hx7 HT5
                  have c0 := cell_at (j := 0) HB2.out rfl
                  have c1 := cell_at (j := 1) HB2.out rfl
                  have f0 : (w2).frozen? ⟨w.heap.size, 0, none⟩ = false := frozen_at HB2.out
                  have f1 : (w2).frozen? ⟨w.heap.size, 1, none⟩ = false := frozen_at HB2.out
                  go_wp2_with fail
                  obtain ⟨w9, hw9⟩ : ∃ w9, w9 = (((w2).setCell ⟨w.heap.size, 0, none⟩ (.int .i64 n)).setCell ⟨w.heap.size, 1, none⟩ (.string q)) := ⟨_, rfl⟩
                  have b9 : w9.heap[w.heap.size]? = some (.cells #[.int .i64 n, .string q] 60 (0, 0)) := by rw [hw9]; exact heap_setCell_at (j := 1) (.string q) (heap_setCell_at (j := 0) (.int .i64 n) HB2.out)
                  have m9 : Mod (fun b => b = w.heap.size) (w2) w9 := by rw [hw9]; exact ((Mod.refl (fun b => b = w.heap.size) _).setCell (p := ⟨w.heap.size, 0, none⟩) (fun _ => rfl) _).setCell (p := ⟨w.heap.size, 1, none⟩) (fun _ => rfl) _
                  have mF : Mod (Far w) (w2) w9 := m9.mono fun _ _ e => Nat.le_of_eq e.symm
                  rw [← hw9]
                  clear hw9
                  have e0 := cell_at (j := 0) b9 rfl
                  have e1 := cell_at (j := 1) b9 rfl
                  refine bodyPost_ret (v := .tuple #[.agg #[.int .i64 n, .string q], .bool true]) (by simp [results, Tryd.results113, go_sem, e0, e1]) rfl ?_
                  exact .inr ⟨_, HX.out, ⟨rfl, H.out.far HS.out mF⟩, Mod.far HM2.out mF⟩
  · have HAZ := Lib.hid (show partR R.S k agg = (termP R.S k).bind fun r => .ok (r.1, r.2, agg) by unfold partR; rw [if_pos (aggAt_not (.inl h1) H.out.le)])
    obtain ⟨kd, hkd⟩ : ∃ kd, kd = kindI R.S k := ⟨_, rfl⟩
    rw [← hkd] at HKD h1 hbd
    have hkb : (kd == 1) = false := by simpa using h1
    clear h1 hkd
    go_enter Tryd.func113, Tryd.ntmps113
    go_wp2_with fail
    refine wp_region_ord (fun _ => True) [(0, 0), (3, 1), (0, 2), (0, 3), (0, 4), (0, 5), (0, 6), (1, 7), (0, 8), (0, 9), (0, 10), (1, 11), (0, 12), (0, 13), (0, 14), (1, 15), (0, 16), (0, 17), (0, 18), (0, 19), (0, 20), (0, 21), (1, 22), (0, 23), (0, 24)] (by kernel_rfl) (by kernel_rfl) ?_
    go_wp2_with (first
      | (refine ord_pure rfl rfl rfl (fun K hK => ?_); go_big_quiet_op; refine hK _ ?_; clear hK K)
                        | (refine ord_skip rfl rfl ?_; simp only [Act.put, List.setIfInBounds_toArray, List.set_cons_zero, List.set_cons_succ])
                        | (refine ord_held rfl rfl rfl (trivial) (fun K hK => ?_); apply Exists.intro; refine ⟨fun w' hs => ?_, hK _ ?_⟩; (revert hs; dsimp only; (try simp only [and_imp]); intros; go_simp; rfl); clear hK K)
                        | (refine ord_keep rfl rfl (trivial) (fun K hK => ?_))
                        | (refine ord_drop rfl rfl (fun K hK => ?_))
                        | (refine ord_nil ?_))
    refine (HKD.out _ M0.out.drew).mono ?_
    rintro e w1 ⟨rfl, hM⟩
    have HS1 := Lib.hid (H.out.mod0 (M0.out.drew.trans hM))
    have HB1 := Lib.hid (hM.at (w := (w.alloc (.cells #[.int .i64 0, .string ⟨#[]⟩] 60)).drew) HB0.out id)
    have HM1 := Lib.hid ((M0.out.drew.trans hM).mono (T := R.Ch) fun _ _ f => f.elim)
    clear hM
    go_wp2_with (first
      | (refine ord_pure rfl rfl rfl (fun K hK => ?_); go_big_quiet_op; refine hK _ ?_; clear hK K)
                        | (refine ord_skip rfl rfl ?_; simp only [Act.put, List.setIfInBounds_toArray, List.set_cons_zero, List.set_cons_succ])
                        | (refine ord_held rfl rfl rfl (trivial) (fun K hK => ?_); apply Exists.intro; refine ⟨fun w' hs => ?_, hK _ ?_⟩; (revert hs; dsimp only; (try simp only [and_imp]); intros; go_simp; rfl); clear hK K)
                        | (refine ord_keep rfl rfl (trivial) (fun K hK => ?_))
                        | (refine ord_drop rfl rfl (fun K hK => ?_))
                        | (refine ord_nil ?_))
    have HTM := Lib.hid (refTerm_any R k agg w1 HS1.out)
    go_wp2_with fail
    refine HTM.out.mono ?_
    rintro e w2 (⟨x, hx, ⟨jk, js, rfl⟩, hE, hM2⟩ | ⟨⟨⟨tk, tt⟩, k2⟩, hx, ⟨rfl, hS⟩, hM2⟩)
    · have HX := Lib.hid (show partR R.S k agg = .error x by rw [HAZ.out, hx]; rfl)
      have HB2 := Lib.hid (hM2.at HB1.out (H.out.nch (Nat.le_refl _)))
      have HM2 := Lib.hid (HM1.out.trans hM2)
      have HE := Lib.hid hE
      clear hx hE hM2 HTM
      have c0 := cell_at (j := 0) HB2.out rfl
      have c1 := cell_at (j := 1) HB2.out rfl
      have f0 : (w2).frozen? ⟨w.heap.size, 0, none⟩ = false := frozen_at HB2.out
      have f1 : (w2).frozen? ⟨w.heap.size, 1, none⟩ = false := frozen_at HB2.out
      go_wp2_with fail
      obtain ⟨w9, hw9⟩ : ∃ w9, w9 = (((w2).setCell ⟨w.heap.size, 0, none⟩ (.int .i64 jk)).setCell ⟨w.heap.size, 1, none⟩ (.string js)) := ⟨_, rfl⟩
      have b9 : w9.heap[w.heap.size]? = some (.cells #[.int .i64 jk, .string js] 60 (0, 0)) := by rw [hw9]; exact heap_setCell_at (j := 1) (.string js) (heap_setCell_at (j := 0) (.int .i64 jk) HB2.out)
      have m9 : Mod (fun b => b = w.heap.size) (w2) w9 := by rw [hw9]; exact ((Mod.refl (fun b => b = w.heap.size) _).setCell (p := ⟨w.heap.size, 0, none⟩) (fun _ => rfl) _).setCell (p := ⟨w.heap.size, 1, none⟩) (fun _ => rfl) _
      have mF : Mod (Far w) (w2) w9 := m9.mono fun _ _ e => Nat.le_of_eq e.symm
      rw [← hw9]
      clear hw9
      have e0 := cell_at (j := 0) b9 rfl
      have e1 := cell_at (j := 1) b9 rfl
      refine bodyPost_ret (v := .tuple #[.agg #[.int .i64 jk, .string js], .bool false]) (by simp [results, Tryd.results113, go_sem, e0, e1]) rfl ?_
      exact .inl ⟨x, HX.out, ⟨_, _, rfl⟩, HE.out.far H.out mF, Mod.far HM2.out mF⟩
    · have HX := Lib.hid (show partR R.S k agg = .ok (⟨tk, tt⟩, k2, agg) by rw [HAZ.out, hx]; rfl)
      have HB2 := Lib.hid (hM2.at HB1.out (H.out.nch (Nat.le_refl _)))
      have HM2 := Lib.hid (HM1.out.trans hM2)
      have HS := Lib.hid hS
      unfold tmV
      clear hx hS hM2 HTM
      have c0 := cell_at (j := 0) HB2.out rfl
      have c1 := cell_at (j := 1) HB2.out rfl
      have f0 : (w2).frozen? ⟨w.heap.size, 0, none⟩ = false := frozen_at HB2.out
      have f1 : (w2).frozen? ⟨w.heap.size, 1, none⟩ = false := frozen_at HB2.out
      go_wp2_with fail
      obtain ⟨w9, hw9⟩ : ∃ w9, w9 = (((w2).setCell ⟨w.heap.size, 0, none⟩ (.int .i64 tk)).setCell ⟨w.heap.size, 1, none⟩ (.string tt)) := ⟨_, rfl⟩
      have b9 : w9.heap[w.heap.size]? = some (.cells #[.int .i64 tk, .string tt] 60 (0, 0)) := by rw [hw9]; exact heap_setCell_at (j := 1) (.string tt) (heap_setCell_at (j := 0) (.int .i64 tk) HB2.out)
      have m9 : Mod (fun b => b = w.heap.size) (w2) w9 := by rw [hw9]; exact ((Mod.refl (fun b => b = w.heap.size) _).setCell (p := ⟨w.heap.size, 0, none⟩) (fun _ => rfl) _).setCell (p := ⟨w.heap.size, 1, none⟩) (fun _ => rfl) _
      have mF : Mod (Far w) (w2) w9 := m9.mono fun _ _ e => Nat.le_of_eq e.symm
      rw [← hw9]
      clear hw9
      have e0 := cell_at (j := 0) b9 rfl
      have e1 := cell_at (j := 1) b9 rfl
      refine bodyPost_ret (v := .tuple #[.agg #[.int .i64 tk, .string tt], .bool true]) (by simp [results, Tryd.results113, go_sem, e0, e1]) rfl ?_
      exact .inr ⟨_, HX.out, ⟨rfl, H.out.far HS.out mF⟩, Mod.far HM2.out mF⟩
end Go.Proofs.YtgplagdehfhffaaDoor
