/-
  Rules of one's own, marks behind their lists: ownAtom, own, ownProgram.
-/
import Derived.Test.YteecbbnpgmceiaaDoorData
import Derived.Test.YteecbbnpgmceiaaDoorLeb
import Derived.Test.YteecbbnpgmceiaaDoorOrd
import Derived.WalkLawsBesides
namespace Go.Proofs.YteecbbnpgmceiaaDoor
open Go Go.RowKit Go.Mine
set_option linter.unusedVariables false
set_option maxHeartbeats 4000000
set_option maxRecDepth 100000

theorem tiT : TI Tryd.prog 37 72 2 24 := TI.mk' (z := .agg #[.int .i64 0, .string ByteArray.empty]) (by kernel_rfl) (by kernel_rfl) rfl (by omega)
theorem tiL : TI Tryd.prog 40 74 8 104 := TI.mk' (z := .agg #[.int .i64 0, .string ByteArray.empty, .slice none 0 0, .int .i64 0, .int .i64 0, .string ByteArray.empty, .int .i64 0, .string ByteArray.empty]) (by kernel_rfl) (by kernel_rfl) rfl (by omega)
theorem tiR : TI Tryd.prog 31 42 3 64 := TI.mk' (z := .agg #[.string ByteArray.empty, .slice none 0 0, .slice none 0 0]) (by kernel_rfl) (by kernel_rfl) rfl (by omega)
def tM : Tm := ⟨-77, ⟨#[]⟩⟩
/-- terms of one's own in block g, the mark behind them -/
def OwnT (w : World) (g c : Nat) (ts : List Tm) : Prop := Mine.Own w 72 2 (some ⟨g, 0, none⟩) (ts.length + 1) c (tmsC (ts ++ [tM]))
theorem OwnT.mod {S : Nat → Prop} {w w' : World} {g c : Nat} {ts : List Tm} (h : OwnT w g c ts) (m : Mod S w w') (hs : ¬ S g) : OwnT w' g c ts :=
  Mine.Own.mod h m (fun b hb => by cases hb; exact hs)
theorem OwnT.lt {w : World} {g c : Nat} {ts : List Tm} (h : OwnT w g c ts) : g < w.heap.size := Mine.Own.lt h g rfl
theorem OwnT.cap {w : World} {g c : Nat} {ts : List Tm} (h : OwnT w g c ts) : ts.length + 1 ≤ c ∧ c ≤ maxLen := by
  obtain ⟨_, _, _, _, h1, h2, _⟩ := h.2.resolve_left (by simp)
  exact ⟨h1, h2⟩
theorem OwnT.at {w : World} {g c : Nat} {ts : List Tm} (h : OwnT w g c ts) : TsAt w (.slice (some ⟨g, 0, none⟩) ts.length c) ts := by
  refine ⟨_, _, rfl, ?_⟩
  have := (Mine.Own.rd h).take (ts.length * 2)
  rw [tmsC_append, List.take_left' (by simp)] at this
  exact this
theorem OwnT.mark {w : World} {g c : Nat} {ts : List Tm} (h : OwnT w g c ts) : w.cell? ⟨g, ts.length * 2, none⟩ = some (.int .i64 (-77)) := by
  obtain ⟨b, o, e, q⟩ := Mine.Own.rd h (ts.length * 2) (.int .i64 (-77)) (by
    rw [tmsC_append, List.getElem?_append_right (by rw [tmsC_length]; exact Nat.le_refl _), tmsC_length, Nat.sub_self]; rfl)
  cases e
  simpa using q
theorem own_madeg (w : World) (e : TypeId) (k : Nat) (g : Nat) (hg : g = w.heap.size) : Mine.Own (w.alloc (.cells #[] e)) e k (some ⟨g, 0, none⟩) 0 0 [] := by
  subst hg
  have := Mine.Own.made w e k #[] 0 0 (Nat.le_refl _) (by unfold maxLen; omega) (by simp)
  simpa using this
theorem grow_mod0 {w w1 w2 : World} {g : Nat} {a : Option Addr} (h : Mod (fun _ => False) w w1) (hg : Grow w1 (some ⟨g, 0, none⟩) w2 a) (hge : w.heap.size ≤ g) : Mod (fun _ => False) w w2 := h.step hg.mod (fun i hi hs => by simp at hs; omega)
theorem ownAtom_any (p : ByteArray) (ts : List Tm) (s : Value) (w : World) (ht : TsAt w s ts) (hn : ts.length < 2 ^ 30) :
    Calls Tryd.prog 86 #[.agg #[.string p, s]] w fun e w' => ∃ g c, e = .returned (.agg #[.string p, .slice (some ⟨g, 0, none⟩) ts.length c]) ∧ OwnT w' g c ts ∧ w.heap.size ≤ g ∧ Mod (fun _ => False) w w' := by
  obtain ⟨ad, c, rfl, hr⟩ := ht
  have hm1 : Mod (fun _ => False) w (((w.alloc (.cells #[.string p, .slice ad ts.length c] 39)).alloc (.cells #[.string ⟨#[]⟩, .slice none 0 0] 39)).alloc (.cells #[] 72)) := (((Mod.refl _ w).alloc _).alloc _).alloc _
  have HR := Lib.hid (hr.mod hm1 (fun _ _ => id))
  have HM := Lib.hid hm1
  clear hr hm1
  go_enter Tryd.func86, Tryd.ntmps86
  go_wp2_with (first
    | (at_builtin; refine wpL_append rfl (.tmp 4) (.tmp 6) 37 37 rfl tiT rfl (own_madeg _ 72 2 (w.heap.size + 1 + 1) (by simp)) rfl (Src.ofRd tiT.ht ts.length c HR.out (tmsC_length ts) (tmsC_one ts)) (by omega) (by unfold maxLen; omega) ?_; intro a2 c2 w2 hO2 hG2 _
       simp only [Nat.zero_add, List.nil_append] at hO2
       simp only [Nat.zero_add]
       have HO2 := Lib.hid hO2; have HG2 := Lib.hid hG2; clear hO2 hG2)
    | (at_builtin; refine wpL_appendN (us := [.int .i64 (-77), .string ⟨#[]⟩]) rfl (.tmp 7) (.tmp 9) 37 rfl tiT rfl HO2.out rfl rfl rfl (by omega) (by unfold maxLen; omega) ?_; intro a3 c3 w3 hO3 hG3 _
       obtain ⟨g3, rfl⟩ := hO3.atHead (by omega)
       have hc3 : ts.length + 1 ≤ c3 ∧ c3 ≤ maxLen := by
         obtain ⟨_, _, _, _, h1, h2, _⟩ := hO3.2.resolve_left (by simp)
         exact ⟨h1, h2⟩
       obtain ⟨hc3, hcm⟩ := hc3
       unfold maxLen at hcm
       have hgo := HG2.out.trans hG3
       have hm3 := grow_mod0 ((Mod.refl (fun _ => False) ((w.alloc (.cells #[.string p, .slice ad ts.length c] 39)).alloc (.cells #[.string ⟨#[]⟩, .slice none 0 0] 39))).alloc (.cells #[] 72)) hgo (by simp)
       have b1 := (((Mod.refl (fun _ => False) (w.alloc (.cells #[.string p, .slice ad ts.length c] 39))).alloc (.cells #[.string ⟨#[]⟩, .slice none 0 0] 39)).trans hm3).at (heap_alloc_new w _) id
       have b2 := hm3.at (heap_alloc_new (w.alloc (.cells #[.string p, .slice ad ts.length c] 39)) _) id
       rw [World.size_alloc] at b2
       have d0 := cell_at (j := 0) b1 rfl
       have d1 := cell_at (j := 1) b1 rfl
       have f1 : w3.frozen? ⟨w.heap.size, 1, none⟩ = false := frozen_at b1
       have e0 := cell_at (j := 0) b2 rfl
       have e1 := cell_at (j := 1) b2 rfl
       have k0 : w3.frozen? ⟨w.heap.size + 1, 0, none⟩ = false := frozen_at b2
       have k1 : w3.frozen? ⟨w.heap.size + 1, 1, none⟩ = false := frozen_at b2
       have hg3 : w.heap.size + 2 ≤ g3 := by
         rcases hgo.pos with e | ⟨b, e, hb⟩
         · simp at e; omega
         · simp at e hb; omega
       have B2 := Lib.hid b2
       have HO3 := Lib.hid hO3; have HM3 := Lib.hid (HM.out.step hgo.mod (fun i hi hs => by simp at hs; omega)); clear hO3 hG3 hgo hm3 b1 b2))
  have hm : Mod (fun k => k = w.heap.size ∨ k = w.heap.size + 1) w3 (((w3.setCell ⟨w.heap.size, 1, none⟩ (.slice (some ⟨g3, 0, none⟩) ts.length c3)).setCell ⟨w.heap.size + 1, 0, none⟩ (.string p)).setCell ⟨w.heap.size + 1, 1, none⟩ (.slice (some ⟨g3, 0, none⟩) ts.length c3)) :=
    (((Mod.refl _ w3).setCell (p := ⟨w.heap.size, 1, none⟩) (fun _ => .inl rfl) _).setCell (p := ⟨w.heap.size + 1, 0, none⟩) (fun _ => .inr rfl) _).setCell (p := ⟨w.heap.size + 1, 1, none⟩) (fun _ => .inr rfl) _
  have hb := heap_setCell_at (j := 1) (.slice (some ⟨g3, 0, none⟩) ts.length c3) (heap_setCell_at (j := 0) (.string p) (((Mod.refl (fun k => k = w.heap.size) w3).setCell (p := ⟨w.heap.size, 1, none⟩) (fun _ => rfl) (.slice (some ⟨g3, 0, none⟩) ts.length c3)).at B2.out (by omega)))
  have q0 := cell_at (j := 0) (u := .string p) hb rfl
  have q1 := cell_at (j := 1) (u := .slice (some ⟨g3, 0, none⟩) ts.length c3) hb rfl
  have hO : OwnT w3 g3 c3 ts := by unfold OwnT; rw [tmsC_append]; exact HO3.out
  generalize (((w3.setCell ⟨w.heap.size, 1, none⟩ (.slice (some ⟨g3, 0, none⟩) ts.length c3)).setCell ⟨w.heap.size + 1, 0, none⟩ (.string p)).setCell ⟨w.heap.size + 1, 1, none⟩ (.slice (some ⟨g3, 0, none⟩) ts.length c3)) = W at *
  exact bodyPost_ret (v := .agg #[.string p, .slice (some ⟨g3, 0, none⟩) ts.length c3]) (by simp [results, Tryd.results86, go_sem, q0, q1]) rfl
    ⟨g3, c3, rfl, hO.mod hm (by omega), by omega, HM3.out.step hm (fun i hi hs => by omega)⟩
end Go.Proofs.YteecbbnpgmceiaaDoor
