/-
  Rules of one's own, marks behind their lists: ownAtom, own, ownProgram.
-/
import Derived.Test.YtphgglnkdfndiaaDoorData
import Derived.Test.YtphgglnkdfndiaaDoorLeb
import Derived.Test.YtphgglnkdfndiaaDoorOrd
import Derived.WalkLawsBesides
import Derived.Test.YtphgglnkdfndiaaDoorMayG
namespace Go.Proofs.YtphgglnkdfndiaaDoor
open Go Go.RowKit Go.Mine
set_option linter.unusedVariables false
set_option maxHeartbeats 4000000
set_option maxRecDepth 100000

theorem tiT : TI Tryd.prog 33 42 2 24 := TI.mk' (z := .agg #[.int .i64 0, .string ByteArray.empty]) (by kernel_rfl) (by kernel_rfl) rfl (by omega)
theorem tiL : TI Tryd.prog 36 44 8 104 := TI.mk' (z := .agg #[.int .i64 0, .string ByteArray.empty, .slice none 0 0, .int .i64 0, .int .i64 0, .string ByteArray.empty, .int .i64 0, .string ByteArray.empty]) (by kernel_rfl) (by kernel_rfl) rfl (by omega)
theorem tiR : TI Tryd.prog 22 38 3 64 := TI.mk' (z := .agg #[.string ByteArray.empty, .slice none 0 0, .slice none 0 0]) (by kernel_rfl) (by kernel_rfl) rfl (by omega)
def tM : Tm := ⟨-77, ⟨#[]⟩⟩
/-- terms of one's own in block g, the mark behind them -/
def OwnT (w : World) (g c : Nat) (ts : List Tm) : Prop := Mine.Own w 42 2 (some ⟨g, 0, none⟩) (ts.length + 1) c (tmsC (ts ++ [tM]))
theorem OwnT.mod {S : Nat → Prop} {w w' : World} {g c : Nat} {ts : List Tm} (h : OwnT w g c ts) (m : Mod S w w') (hs : ¬ S g) : OwnT w' g c ts :=
  Mine.Own.mod h m (fun b hb => by cases hb; exact hs)
theorem OwnT.lt {w : World} {g c : Nat} {ts : List Tm} (h : OwnT w g c ts) : g < w.heap.size := Mine.Own.lt h g rfl
theorem OwnT.cap {w : World} {g c : Nat} {ts : List Tm} (h : OwnT w g c ts) : ts.length + 1 ≤ c ∧ c ≤ maxLen := by
  obtain ⟨_, _, _, _, h1, h2, _⟩ := h.2.resolve_left (by simp)
  exact ⟨h1, h2⟩
theorem OwnT.at {w : World} {g c : Nat} {ts : List Tm} (h : OwnT w g c ts) : TsAt w (.slice (some ⟨g, 0, none⟩) ts.length c) ts := by
  refine ⟨_, _, rfl, ?_⟩
  have := (Mine.Own.rd h).take (ts.length * 2)
  rw [tmsC_append, List.take_left' (by simp)] at this
  exact this
theorem OwnT.mark {w : World} {g c : Nat} {ts : List Tm} (h : OwnT w g c ts) : w.cell? ⟨g, ts.length * 2, none⟩ = some (.int .i64 (-77)) := by
  obtain ⟨b, o, e, q⟩ := Mine.Own.rd h (ts.length * 2) (.int .i64 (-77)) (by
    rw [tmsC_append, List.getElem?_append_right (by rw [tmsC_length]; exact Nat.le_refl _), tmsC_length, Nat.sub_self]; rfl)
  cases e
  simpa using q
theorem own_madeg (w : World) (e : TypeId) (k : Nat) (g : Nat) (hg : g = w.heap.size) : Mine.Own (w.alloc (.cells #[] e)) e k (some ⟨g, 0, none⟩) 0 0 [] := by
  subst hg
  have := Mine.Own.made w e k #[] 0 0 (Nat.le_refl _) (by unfold maxLen; omega) (by simp)
  simpa using this
theorem grow_mod0 {w w1 w2 : World} {g : Nat} {a : Option Addr} (h : Mod (fun _ => False) w w1) (hg : Grow w1 (some ⟨g, 0, none⟩) w2 a) (hge : w.heap.size ≤ g) : Mod (fun _ => False) w w2 := h.step hg.mod (fun i hi hs => by simp at hs; omega)
theorem ownAtom_any (p : ByteArray) (ts : List Tm) (s : Value) (w : World) (ht : TsAt w s ts) (hn : ts.length < 2 ^ 30) :
    Calls Tryd.prog 32 #[.agg #[.string p, s]] w fun e w' => ∃ g c, e = .returned (.agg #[.string p, .slice (some ⟨g, 0, none⟩) ts.length c]) ∧ OwnT w' g c ts ∧ w.heap.size ≤ g ∧ Mod (fun _ => False) w w' := by
  obtain ⟨ad, c, rfl, hr⟩ := ht
  have hm1 : Mod (fun _ => False) w (((w.alloc (.cells #[.string p, .slice ad ts.length c] 35)).alloc (.cells #[.string ⟨#[]⟩, .slice none 0 0] 35)).alloc (.cells #[] 42)) := (((Mod.refl _ w).alloc _).alloc _).alloc _
  have HR := Lib.hid (hr.mod hm1 (fun _ _ => id))
  have HM := Lib.hid hm1
  clear hr hm1
  go_enter Tryd.func32, Tryd.ntmps32
  go_wp2_with (first
    | (at_builtin; refine wpL_append rfl (.tmp 4) (.tmp 6) 33 33 rfl tiT rfl (own_madeg _ 42 2 (w.heap.size + 1 + 1) (by simp)) rfl (Src.ofRd tiT.ht ts.length c HR.out (tmsC_length ts) (tmsC_one ts)) (by omega) (by unfold maxLen; omega) ?_; intro a2 c2 w2 hO2 hG2 _
       simp only [Nat.zero_add, List.nil_append] at hO2
       simp only [Nat.zero_add]
       have HO2 := Lib.hid hO2; have HG2 := Lib.hid hG2; clear hO2 hG2)
    | (at_builtin; refine wpL_appendN (us := [.int .i64 (-77), .string ⟨#[]⟩]) rfl (.tmp 7) (.tmp 9) 33 rfl tiT rfl HO2.out rfl rfl rfl (by omega) (by unfold maxLen; omega) ?_; intro a3 c3 w3 hO3 hG3 _
       obtain ⟨g3, rfl⟩ := hO3.atHead (by omega)
       have hc3 : ts.length + 1 ≤ c3 ∧ c3 ≤ maxLen := by
         obtain ⟨_, _, _, _, h1, h2, _⟩ := hO3.2.resolve_left (by simp)
         exact ⟨h1, h2⟩
       obtain ⟨hc3, hcm⟩ := hc3
       unfold maxLen at hcm
       have hgo := HG2.out.trans hG3
       have hm3 := grow_mod0 ((Mod.refl (fun _ => False) ((w.alloc (.cells #[.string p, .slice ad ts.length c] 35)).alloc (.cells #[.string ⟨#[]⟩, .slice none 0 0] 35))).alloc (.cells #[] 42)) hgo (by simp)
       have b1 := (((Mod.refl (fun _ => False) (w.alloc (.cells #[.string p, .slice ad ts.length c] 35))).alloc (.cells #[.string ⟨#[]⟩, .slice none 0 0] 35)).trans hm3).at (heap_alloc_new w _) id
       have b2 := hm3.at (heap_alloc_new (w.alloc (.cells #[.string p, .slice ad ts.length c] 35)) _) id
       rw [World.size_alloc] at b2
       have d0 := cell_at (j := 0) b1 rfl
       have d1 := cell_at (j := 1) b1 rfl
       have f1 : w3.frozen? ⟨w.heap.size, 1, none⟩ = false := frozen_at b1
       have e0 := cell_at (j := 0) b2 rfl
       have e1 := cell_at (j := 1) b2 rfl
       have k0 : w3.frozen? ⟨w.heap.size + 1, 0, none⟩ = false := frozen_at b2
       have k1 : w3.frozen? ⟨w.heap.size + 1, 1, none⟩ = false := frozen_at b2
       have hg3 : w.heap.size + 2 ≤ g3 := by
         rcases hgo.pos with e | ⟨b, e, hb⟩
         · simp at e; omega
         · simp at e hb; omega
       have B2 := Lib.hid b2
       have HO3 := Lib.hid hO3; have HM3 := Lib.hid (HM.out.step hgo.mod (fun i hi hs => by simp at hs; omega)); clear hO3 hG3 hgo hm3 b1 b2))
  have hm : Mod (fun k => k = w.heap.size ∨ k = w.heap.size + 1) w3 (((w3.setCell ⟨w.heap.size, 1, none⟩ (.slice (some ⟨g3, 0, none⟩) ts.length c3)).setCell ⟨w.heap.size + 1, 0, none⟩ (.string p)).setCell ⟨w.heap.size + 1, 1, none⟩ (.slice (some ⟨g3, 0, none⟩) ts.length c3)) :=
    (((Mod.refl _ w3).setCell (p := ⟨w.heap.size, 1, none⟩) (fun _ => .inl rfl) _).setCell (p := ⟨w.heap.size + 1, 0, none⟩) (fun _ => .inr rfl) _).setCell (p := ⟨w.heap.size + 1, 1, none⟩) (fun _ => .inr rfl) _
  have hb := heap_setCell_at (j := 1) (.slice (some ⟨g3, 0, none⟩) ts.length c3) (heap_setCell_at (j := 0) (.string p) (((Mod.refl (fun k => k = w.heap.size) w3).setCell (p := ⟨w.heap.size, 1, none⟩) (fun _ => rfl) (.slice (some ⟨g3, 0, none⟩) ts.length c3)).at B2.out (by omega)))
  have q0 := cell_at (j := 0) (u := .string p) hb rfl
  have q1 := cell_at (j := 1) (u := .slice (some ⟨g3, 0, none⟩) ts.length c3) hb rfl
  have hO : OwnT w3 g3 c3 ts := by unfold OwnT; rw [tmsC_append]; exact HO3.out
  generalize (((w3.setCell ⟨w.heap.size, 1, none⟩ (.slice (some ⟨g3, 0, none⟩) ts.length c3)).setCell ⟨w.heap.size + 1, 0, none⟩ (.string p)).setCell ⟨w.heap.size + 1, 1, none⟩ (.slice (some ⟨g3, 0, none⟩) ts.length c3)) = W at *
  exact bodyPost_ret (v := .agg #[.string p, .slice (some ⟨g3, 0, none⟩) ts.length c3]) (by simp [results, Tryd.results32, go_sem, q0, q1]) rfl
    ⟨g3, c3, rfl, hO.mod hm (by omega), by omega, HM3.out.step hm (fun i hi hs => by omega)⟩
end Go.Proofs.YtphgglnkdfndiaaDoor
/-
  own: a rule in memory of its own.
-/
namespace Go.Proofs.YtphgglnkdfndiaaDoor
open Go Go.RowKit Go.Mine
set_option linter.unusedVariables false
set_option maxHeartbeats 8000000
set_option maxRecDepth 100000

def lM : Lm := ⟨-77, ⟨⟨#[]⟩, []⟩, 0, ⟨0, ⟨#[]⟩⟩, ⟨0, ⟨#[]⟩⟩⟩
/-- a literal, the block of its terms, and its room -/
abbrev X3 := Lm × Nat × Nat
def x3V (x : X3) : Lm × Value := (x.1, .slice (some ⟨x.2.1, 0, none⟩) x.1.atom.terms.length x.2.2)
def xsV (xs : List X3) : List (Lm × Value) := xs.map x3V
@[simp] theorem xsV_length (xs : List X3) : (xsV xs).length = xs.length := by simp [xsV]
def OwnL (w : World) (g c : Nat) (xs : List X3) : Prop := Mine.Own w 44 8 (some ⟨g, 0, none⟩) (xs.length + 1) c (lmsC (xsV xs ++ [(lM, .slice none 0 0)]))
def blks (xs : List X3) : List Nat := xs.map fun x => x.2.1
structure OwnR (w : World) (S : Nat → Prop) (r : Rm) (gh ch gb cb : Nat) (xs : List X3) : Prop where
  hx : xs.map Prod.fst = r.body
  head : OwnT w gh ch r.head.terms
  body : OwnL w gb cb xs
  terms : ∀ x ∈ xs, OwnT w x.2.1 x.2.2 x.1.atom.terms
  nd : (gh :: gb :: blks xs).Nodup
  inS : ∀ b ∈ gh :: gb :: blks xs, S b
theorem lmsC_one8 (us : List Value) (h : us.all Value.oneCell' = true) : us.all Value.oneCell' = true := h
/-- what own has gathered so far -/
structure Gath (w wr : World) (lo : Nat) (gh ch : Nat) (hts : List Tm) (ls : List Lm) (k : Nat) (a : Option Addr) (c : Nat) (xs : List X3) : Prop where
  hx : xs.map Prod.fst = ls.take k
  own : Mine.Own wr 44 8 a k c (lmsC (xsV xs))
  head : OwnT wr gh ch hts
  terms : ∀ x ∈ xs, OwnT wr x.2.1 x.2.2 x.1.atom.terms
  nd : (gh :: blks xs).Nodup
  far : ∀ b ∈ gh :: blks xs, lo ≤ b ∧ b < wr.heap.size ∧ blk a ≠ some b
  la : ∀ b, blk a = some b → lo ≤ b
  mod : Mod (fun _ => False) w wr
theorem Gath.step {w wr v3 w4 : World} {lo gh ch : Nat} {hts : List Tm} {ls : List Lm} {k c c4 g cg : Nat} {a a4 : Option Addr} {xs : List X3} {t : Lm} (h : Gath w wr lo gh ch hts ls k a c xs) (hk : k < ls.length) (ht : ls[k] = t) (hlo : w.heap.size ≤ lo) (hlw : lo ≤ wr.heap.size)
    (m : Mod (fun _ => False) wr v3) (hT : OwnT v3 g cg t.atom.terms) (hg : wr.heap.size ≤ g)
    (hO : Mine.Own w4 44 8 a4 (k + 1) c4 (lmsC (xsV xs) ++ lmC (x3V (t, g, cg)))) (hG : Grow v3 a w4 a4) : Gath w w4 lo gh ch hts ls (k + 1) a4 c4 (xs ++ [(t, g, cg)]) := by
  have hal : ∀ b, blk a = some b → b < wr.heap.size := h.own.lt
  have hm4 : ∀ b, b < wr.heap.size → blk a ≠ some b → ∀ cs ts, OwnT wr b cs ts → OwnT w4 b cs ts := fun b hb hne cs ts ho => (ho.mod m id).mod hG.mod hne
  have hgl := hT.lt
  have hga : blk a ≠ some g := fun e => by have := hal g e; omega
  have hsz := hG.mod.size
  have hsz2 := m.size
  have hne4 : ∀ b, b < v3.heap.size → blk a ≠ some b → blk a4 ≠ some b := fun b hb hne => hG.ne hb hne
  refine ⟨?_, ?_, ?_, ?_, ?_, ?_, ?_, ?_⟩
  · rw [List.map_append, h.hx, List.take_succ_eq_append_getElem hk, ht]; rfl
  · unfold xsV; rw [List.map_append, lmsC_append]; exact hO
  · have := h.far gh (List.mem_cons_self ..)
    exact hm4 gh this.2.1 this.2.2 _ _ h.head
  · intro x hx
    rcases List.mem_append.1 hx with hx | hx
    · have := h.far x.2.1 (List.mem_cons_of_mem _ (List.mem_map.2 ⟨x, hx, rfl⟩))
      exact hm4 _ this.2.1 this.2.2 _ _ (h.terms x hx)
    · simp at hx; subst hx
      exact hT.mod hG.mod hga
  · have e : gh :: blks (xs ++ [(t, g, cg)]) = (gh :: blks xs) ++ [g] := by simp [blks]
    rw [e, List.nodup_append]
    refine ⟨h.nd, by simp, fun b hb b' hb' => ?_⟩
    simp at hb'; subst hb'
    have := (h.far b hb).2.1
    omega
  · have e : gh :: blks (xs ++ [(t, g, cg)]) = (gh :: blks xs) ++ [g] := by simp [blks]
    rw [e]
    intro b hb
    rcases List.mem_append.1 hb with hb | hb
    · have := h.far b hb
      exact ⟨this.1, by omega, hne4 b (by omega) this.2.2⟩
    · simp at hb; subst hb
      exact ⟨by omega, by omega, hne4 b hgl hga⟩
  · intro b hb
    rcases hG.pos with e | ⟨g', e, hg'⟩
    · rw [e] at hb; exact h.la b hb
    · rw [e] at hb; cases hb; omega
  · exact (h.mod.trans m).step hG.mod (fun i hi hs => by have := h.la i hs; omega)
theorem Gath.fin {w wr v3 w4 : World} {lo gh ch : Nat} {hts : List Tm} {pr : ByteArray} {ls : List Lm} {c cb gb : Nat} {a : Option Addr} {xs : List X3} (h : Gath w wr lo gh ch hts ls ls.length a c xs) (hlo : w.heap.size ≤ lo) (hlw : lo ≤ wr.heap.size)
    (m : Mod (fun _ => False) wr v3) (hO : Mine.Own w4 44 8 (some ⟨gb, 0, none⟩) (ls.length + 1) cb (lmsC (xsV xs) ++ lmC (lM, .slice none 0 0))) (hG : Grow v3 a w4 (some ⟨gb, 0, none⟩)) :
    OwnR w4 (fun b => lo ≤ b ∧ b < w4.heap.size) ⟨⟨pr, hts⟩, ls⟩ gh ch gb cb xs ∧ Mod (fun _ => False) w w4 := by
  have hm4 : ∀ b, b < wr.heap.size → blk a ≠ some b → ∀ cs ts, OwnT wr b cs ts → OwnT w4 b cs ts := fun b hb hne cs ts ho => (ho.mod m id).mod hG.mod hne
  have hsz := hG.mod.size
  have hsz2 := m.size
  have hgb4 : gb < w4.heap.size := hO.lt gb rfl
  have hgbl : lo ≤ gb := by
    rcases hG.pos with e | ⟨g', e, hg'⟩
    · exact h.la gb e.symm
    · simp at e; omega
  have hlen : xs.length = ls.length := by
    have := congrArg List.length h.hx
    simpa using this
  have hne : ∀ b ∈ gh :: blks xs, b ≠ gb := fun b hb e => by
    have h2 := h.far b hb
    exact hG.ne (b := b) (by omega) h2.2.2 (by rw [e]; rfl)
  refine ⟨⟨?_, ?_, ?_, ?_, ?_, ?_⟩, (h.mod.trans m).step hG.mod (fun i hi hs => by have := h.la i hs; omega)⟩
  · rw [h.hx, List.take_length]
  · have := h.far gh (List.mem_cons_self ..)
    exact hm4 gh this.2.1 this.2.2 _ _ h.head
  · unfold OwnL; rw [hlen, lmsC_append]; exact hO
  · intro x hx
    have := h.far x.2.1 (List.mem_cons_of_mem _ (List.mem_map.2 ⟨x, hx, rfl⟩))
    exact hm4 _ this.2.1 this.2.2 _ _ (h.terms x hx)
  · have hnd := h.nd
    rw [List.nodup_cons] at hnd ⊢
    rw [List.nodup_cons]
    refine ⟨fun hm => ?_, fun hm => hne gb (List.mem_cons_of_mem _ hm) rfl, hnd.2⟩
    rcases List.mem_cons.1 hm with e | hm
    · exact hne gh (List.mem_cons_self ..) e
    · exact hnd.1 hm
  · intro b hb
    rcases List.mem_cons.1 hb with rfl | hb
    · have := h.far b (List.mem_cons_self ..); exact ⟨this.1, by omega⟩
    · rcases List.mem_cons.1 hb with rfl | hb
      · exact ⟨hgbl, hgb4⟩
      · have := h.far b (List.mem_cons_of_mem _ hb); exact ⟨this.1, by omega⟩
theorem OwnR.mod {S T : Nat → Prop} {w w' : World} {r : Rm} {gh ch gb cb : Nat} {xs : List X3} (h : OwnR w S r gh ch gb cb xs) (m : Mod T w w') (hs : ∀ b, S b → ¬ T b) : OwnR w' S r gh ch gb cb xs :=
  ⟨h.hx, h.head.mod m (hs _ (h.inS gh (List.mem_cons_self ..))), Mine.Own.mod h.body m (fun b hb => by cases hb; exact hs _ (h.inS gb (List.mem_cons_of_mem _ (List.mem_cons_self ..)))),
    fun x hx => (h.terms x hx).mod m (hs _ (h.inS _ (List.mem_cons_of_mem _ (List.mem_cons_of_mem _ (List.mem_map.2 ⟨x, hx, rfl⟩))))), h.nd, h.inS⟩
theorem OwnR.mono {S T : Nat → Prop} {w : World} {r : Rm} {gh ch gb cb : Nat} {xs : List X3} (h : OwnR w S r gh ch gb cb xs) (hs : ∀ b, S b → T b) : OwnR w T r gh ch gb cb xs :=
  ⟨h.hx, h.head, h.body, h.terms, h.nd, fun b hb => hs b (h.inS b hb)⟩
end Go.Proofs.YtphgglnkdfndiaaDoor
/-
  own walked.
-/
namespace Go.Proofs.YtphgglnkdfndiaaDoor
open Go Go.RowKit Go.Mine
set_option linter.unusedVariables false
set_option maxHeartbeats 8000000
set_option maxRecDepth 100000

theorem own_any (r : Rm) (s b : Value) (w : World) (ht : TsAt w s r.head.terms) (hl : LsAt w b r.body) (hn1 : r.head.terms.length < 2 ^ 30) (hn2 : r.body.length < 2 ^ 30) (hn3 : ∀ l ∈ r.body, l.atom.terms.length < 2 ^ 30) :
    Calls Tryd.prog 15 #[rmV r s b] w fun e w' => ∃ gh ch gb cb xs, e = .returned (.agg #[.string r.head.pred, .slice (some ⟨gh, 0, none⟩) r.head.terms.length ch, .slice (some ⟨gb, 0, none⟩) r.body.length cb]) ∧
      OwnR w' (fun b => w.heap.size ≤ b ∧ b < w'.heap.size) r gh ch gb cb xs ∧ Mod (fun _ => False) w w' := by
  obtain ⟨⟨pr, hts⟩, ls⟩ := r
  unfold rmV
  simp only at ht hl hn1 hn2 hn3 ⊢
  have HT := Lib.hid ht
  obtain ⟨ad, c, rfl, _⟩ := ht
  obtain ⟨bd, bc, xv, rfl, hx, hrx, hxt⟩ := hl
  have HR := Lib.hid hrx; have HX := Lib.hid hx; have HXT := Lib.hid hxt; have HN3 := Lib.hid hn3
  clear hrx hx hxt hn3
  have hm0 : Mod (fun _ => False) w ((w.alloc (.cells #[.string pr, .slice ad hts.length c, .slice bd ls.length bc] 38)).alloc (.cells #[.string ⟨#[]⟩, .slice none 0 0, .slice none 0 0] 38)) := ((Mod.refl _ w).alloc _).alloc _
  have hb0 : ((w.alloc (.cells #[.string pr, .slice ad hts.length c, .slice bd ls.length bc] 38)).alloc (.cells #[.string ⟨#[]⟩, .slice none 0 0, .slice none 0 0] 38)).heap[w.heap.size]? = some (.cells #[.string pr, .slice ad hts.length c, .slice bd ls.length bc] 38 (0, 0)) :=
    ((Mod.refl (fun _ => False) _).alloc _).at (heap_alloc_new w _) id
  have hb1 : ((w.alloc (.cells #[.string pr, .slice ad hts.length c, .slice bd ls.length bc] 38)).alloc (.cells #[.string ⟨#[]⟩, .slice none 0 0, .slice none 0 0] 38)).heap[w.heap.size + 1]? = some (.cells #[.string ⟨#[]⟩, .slice none 0 0, .slice none 0 0] 38 (0, 0)) := by
    have := heap_alloc_new (w.alloc (.cells #[.string pr, .slice ad hts.length c, .slice bd ls.length bc] 38)) (.cells #[.string ⟨#[]⟩, .slice none 0 0, .slice none 0 0] 38)
    simpa using this
  have hsz : ((w.alloc (.cells #[.string pr, .slice ad hts.length c, .slice bd ls.length bc] 38)).alloc (.cells #[.string ⟨#[]⟩, .slice none 0 0, .slice none 0 0] 38)).heap.size = w.heap.size + 2 := by simp
  have HA := Lib.hid (ownAtom_any pr hts _ _ (HT.out.mod0 hm0) hn1)
  have HB := Lib.hid (And.intro hb0 (And.intro hb1 (And.intro hsz hm0)))
  clear hb0 hb1 hsz hm0
  go_enter Tryd.func15, Tryd.ntmps15
  go_wp2_with fail
  refine HA.out.mono ?_
  rintro e w1 ⟨gh, ch, rfl, hO1, hg1, hM1⟩
  obtain ⟨hb0, hb1, hsz, hm0⟩ := HB.out
  have k0 := hM1.at hb0 id
  have k1 := hM1.at hb1 id
  have hM1' := hm0.trans hM1
  rw [hsz] at hg1
  have hs1 := hM1.size
  rw [hsz] at hs1
  clear HA HB hb0 hb1 hsz hm0 hM1
  have c0 := cell_at (j := 0) k0 rfl
  have c1 := cell_at (j := 1) k0 rfl
  have f0 : w1.frozen? ⟨w.heap.size, 0, none⟩ = false := frozen_at k0
  have f1 : w1.frozen? ⟨w.heap.size, 1, none⟩ = false := frozen_at k0
  have K0 := Lib.hid k0; have K1 := Lib.hid k1; have HM1 := Lib.hid hM1'; have HO1 := Lib.hid hO1
  clear k0 k1 hM1' hO1
  go_wp2_with fail
  have hmw : Mod (fun k => k = w.heap.size) w1 ((w1.setCell ⟨w.heap.size, 0, none⟩ (.string pr)).setCell ⟨w.heap.size, 1, none⟩ (.slice (some ⟨gh, 0, none⟩) hts.length ch)) :=
    ((Mod.refl (fun k => k = w.heap.size) w1).setCell (p := ⟨w.heap.size, 0, none⟩) (fun _ => rfl) _).setCell (p := ⟨w.heap.size, 1, none⟩) (fun _ => rfl) _
  have hb0 := heap_setCell_at (j := 1) (.slice (some ⟨gh, 0, none⟩) hts.length ch) (heap_setCell_at (j := 0) (.string pr) K0.out)
  have hb0' : ((w1.setCell ⟨w.heap.size, 0, none⟩ (.string pr)).setCell ⟨w.heap.size, 1, none⟩ (.slice (some ⟨gh, 0, none⟩) hts.length ch)).heap[w.heap.size]? = some (.cells #[.string pr, .slice (some ⟨gh, 0, none⟩) hts.length ch, .slice bd ls.length bc] 38 (0, 0)) := hb0
  have hb1 := hmw.at K1.out (by omega)
  have hO2 : OwnT ((w1.setCell ⟨w.heap.size, 0, none⟩ (.string pr)).setCell ⟨w.heap.size, 1, none⟩ (.slice (some ⟨gh, 0, none⟩) hts.length ch)) gh ch hts := HO1.out.mod hmw (by omega)
  have hM2 : Mod (fun _ => False) w ((w1.setCell ⟨w.heap.size, 0, none⟩ (.string pr)).setCell ⟨w.heap.size, 1, none⟩ (.slice (some ⟨gh, 0, none⟩) hts.length ch)) := HM1.out.step hmw (fun i hi hs => by omega)
  have hs2 : w.heap.size + 2 ≤ ((w1.setCell ⟨w.heap.size, 0, none⟩ (.string pr)).setCell ⟨w.heap.size, 1, none⟩ (.slice (some ⟨gh, 0, none⟩) hts.length ch)).heap.size := Nat.le_trans hs1 hmw.size
  generalize ((w1.setCell ⟨w.heap.size, 0, none⟩ (.string pr)).setCell ⟨w.heap.size, 1, none⟩ (.slice (some ⟨gh, 0, none⟩) hts.length ch)) = w2 at *
  have HG0 : Hid (Gath w w2 (w.heap.size + 2) gh ch hts ls 0 none 0 []) :=
    ⟨rfl, Mine.Own.nil _ _ _, hO2, (fun _ h => by cases h), (by simp [blks]), (fun b hb => by simp [blks] at hb; subst hb; exact ⟨hg1, hO2.lt, by simp⟩), (by intro b h; simp at h), hM2⟩
  have HB0 := Lib.hid hb0'; have HB1 := Lib.hid hb1
  clear hmw hb0 hb0' hb1 hO2 hM2 K0 K1 HM1 HO1 c0 c1 f0 f1
  go_loopw [3, 4] (fun lv iv wr => ∃ (k c' : Nat) (a' : Option Addr) (xs : List X3), lv = .slice a' k c' ∧ iv = .int .i64 k ∧ k ≤ ls.length ∧ Hid (Gath w wr (w.heap.size + 2) gh ch hts ls k a' c' xs) ∧ w.heap.size + 2 ≤ wr.heap.size ∧ Hid (wr.heap[w.heap.size]? = some (.cells #[.string pr, .slice (some ⟨gh, 0, none⟩) hts.length ch, .slice bd ls.length bc] 38 (0, 0))) ∧ Hid (wr.heap[w.heap.size + 1]? = some (.cells #[.string ⟨#[]⟩, .slice none 0 0, .slice none 0 0] 38 (0, 0)))) (fun _ iv _ => ls.length - (intOf iv).toNat)
  case atStart => exact ⟨0, 0, none, [], rfl, rfl, Nat.zero_le _, HG0, hs2, HB0, HB1⟩
  case round =>
    obtain ⟨k, c', a', xs, rfl, rfl, hk, hG, hsw, hB0, hB1⟩ := hrel
    clear HG0 HB0 HB1 hs2
    have c2 := cell_at (j := 2) hB0.out rfl
    by_cases hlt : k < ls.length
    · obtain ⟨sk, hx, hmem⟩ := xs_get HX.out hlt
      obtain ⟨bb, o, rfl, x0, x1, x2, x3, x4, x5, x6, x7⟩ := rd_cell8 (HR.out.mod hG.out.mod (fun _ _ => id)) hx
      have htn := HN3.out _ (List.getElem_mem hlt)
      have HTS := Lib.hid (HXT.out _ hmem)
      obtain ⟨sa, sc, hsk, _⟩ := HXT.out _ hmem
      simp only at hsk
      subst hsk
      have HLK : Hid (ls[k] = ls[k]) := rfl
      clear hx hmem
      obtain ⟨t, hteq⟩ : ∃ t, t = ls[k] := ⟨_, rfl⟩
      rw [← hteq] at x0 x1 x2 x3 x4 x5 x6 x7 htn HTS
      have HTE : Hid (ls[k] = t) := hteq.symm
      clear hteq HLK
      obtain ⟨lk, ⟨lp, lts⟩, lo, ⟨ll1, ll2⟩, ⟨lr1, lr2⟩⟩ := t
      simp only at x0 x1 x2 x3 x4 x5 x6 x7 htn HTS ⊢
      have hmv : Mod (fun _ => False) wr (wr.alloc (.cells #[.int .i64 lk, .string lp, .slice sa lts.length sc, .int .i64 lo, .int .i64 ll1, .string ll2, .int .i64 lr1, .string lr2] 44)) := (Mod.refl _ wr).alloc _
      have HA := Lib.hid (ownAtom_any lp lts _ _ (HTS.out.mod0 (hG.out.mod.trans hmv)) htn)
      have HNB := Lib.hid (heap_alloc_new wr (.cells #[.int .i64 lk, .string lp, .slice sa lts.length sc, .int .i64 lo, .int .i64 ll1, .string ll2, .int .i64 lr1, .string lr2] 44))
      have HMV := Lib.hid hmv
      clear hmv
      go_wp2_with fail
      refine HA.out.mono ?_
      rintro e v1 ⟨g, cg, rfl, hT, hgV, hMv⟩
      simp only [World.size_alloc] at hgV
      have kb := hMv.at HNB.out id
      have y0 := cell_at (j := 0) kb rfl
      have y1 := cell_at (j := 1) kb rfl
      have y2 := cell_at (j := 2) kb rfl
      have y3 := cell_at (j := 3) kb rfl
      have y4 := cell_at (j := 4) kb rfl
      have y5 := cell_at (j := 5) kb rfl
      have y6 := cell_at (j := 6) kb rfl
      have y7 := cell_at (j := 7) kb rfl
      have g1 : v1.frozen? ⟨wr.heap.size, 1, none⟩ = false := frozen_at kb
      have g2 : v1.frozen? ⟨wr.heap.size, 2, none⟩ = false := frozen_at kb
      have hm2 : Mod (fun _ => False) wr ((v1.setCell ⟨wr.heap.size, 1, none⟩ (.string lp)).setCell ⟨wr.heap.size, 2, none⟩ (.slice (some ⟨g, 0, none⟩) lts.length cg)) :=
        ((HMV.out.trans hMv).setCell (p := ⟨wr.heap.size, 1, none⟩) (fun h => by simp at h) _).setCell (p := ⟨wr.heap.size, 2, none⟩) (fun h => by simp at h) _
      have hmx : Mod (fun k => k = wr.heap.size) v1 ((v1.setCell ⟨wr.heap.size, 1, none⟩ (.string lp)).setCell ⟨wr.heap.size, 2, none⟩ (.slice (some ⟨g, 0, none⟩) lts.length cg)) :=
        ((Mod.refl (fun k => k = wr.heap.size) v1).setCell (p := ⟨wr.heap.size, 1, none⟩) (fun _ => rfl) _).setCell (p := ⟨wr.heap.size, 2, none⟩) (fun _ => rfl) _
      have HT2 := Lib.hid (hT.mod hmx (by omega))
      have HM2 := Lib.hid hm2
      have HOO := Lib.hid (hG.out.own.mod hm2 (fun _ _ => id))
      clear hm2 hmx hT hMv kb HA HNB HMV
      go_wp2_with (at_builtin; refine wpL_appendN (us := [.int .i64 lk, .string lp, .slice (some ⟨g, 0, none⟩) lts.length cg, .int .i64 lo, .int .i64 ll1, .string ll2, .int .i64 lr1, .string lr2]) rfl (.tmp 26) (.tmp 28) 36 rfl tiL rfl HOO.out rfl rfl rfl (by omega) (by unfold maxLen; omega) ?_; intro a4 c4 w4 hO4 hG4 _; have HO4 := Lib.hid hO4; have HG4 := Lib.hid hG4; clear hO4 hG4)
      have HGS := Lib.hid (hG.out.step hlt HTE.out (by omega) hsw HM2.out HT2.out (by omega) HO4.out HG4.out)
      have hsz4 := Nat.le_trans HM2.out.size HG4.out.mod.size
      have hb04 := HG4.out.mod.at (HM2.out.at hB0.out id) (fun e => by have := hG.out.la _ e; omega)
      have hb14 := HG4.out.mod.at (HM2.out.at hB1.out id) (fun e => by have := hG.out.la _ e; omega)
      have HB04 := Lib.hid hb04; have HB14 := Lib.hid hb14
      clear hb04 hb14
      go_roundw
      case rel => exact ⟨k + 1, c4, a4, _, rfl, by go_num, hlt, HGS, by omega, HB04, HB14⟩
      case measure => simp [intOf]; omega
    · obtain rfl : k = ls.length := by omega
      go_wp2_with (at_builtin; refine wpL_appendN (us := [.int .i64 (-77), .string ⟨#[]⟩, .slice none 0 0, .int .i64 0, .int .i64 0, .string ⟨#[]⟩, .int .i64 0, .string ⟨#[]⟩]) rfl (.tmp 30) (.tmp 32) 36 rfl tiL rfl hG.out.own rfl rfl rfl (by omega) (by unfold maxLen; omega) ?_; intro a4 c4 w4 hO4 hG4 _
                   obtain ⟨gb, rfl⟩ := hO4.atHead (by omega)
                   have hc4 : ls.length + 1 ≤ c4 ∧ c4 ≤ maxLen := by
                     obtain ⟨_, _, _, _, h1, h2, _⟩ := hO4.2.resolve_left (by simp)
                     exact ⟨h1, h2⟩
                   obtain ⟨hc4, hcm⟩ := hc4
                   unfold maxLen at hcm
                   have hb04 := hG4.mod.at hB0.out (fun e => by have := hG.out.la _ e; omega)
                   have hb14 := hG4.mod.at hB1.out (fun e => by have := hG.out.la _ e; omega)
                   have d0 := cell_at (j := 0) hb04 rfl
                   have d1 := cell_at (j := 1) hb04 rfl
                   have d2 := cell_at (j := 2) hb04 rfl
                   have p2 : w4.frozen? ⟨w.heap.size, 2, none⟩ = false := frozen_at hb04
                   have e0 := cell_at (j := 0) hb14 rfl
                   have e1 := cell_at (j := 1) hb14 rfl
                   have e2 := cell_at (j := 2) hb14 rfl
                   have q0 : w4.frozen? ⟨w.heap.size + 1, 0, none⟩ = false := frozen_at hb14
                   have q1 : w4.frozen? ⟨w.heap.size + 1, 1, none⟩ = false := frozen_at hb14
                   have q2 : w4.frozen? ⟨w.heap.size + 1, 2, none⟩ = false := frozen_at hb14
                   have HF := Lib.hid (hG.out.fin (pr := pr) (by omega) hsw (Mod.refl _ wr) hO4 hG4)
                   have HB14 := Lib.hid hb14
                   clear hO4 hG4 hb04 hb14)
      obtain ⟨hR, hMf⟩ := HF.out
      have hm : Mod (fun k => k = w.heap.size ∨ k = w.heap.size + 1) w4 ((((w4.setCell ⟨w.heap.size, 2, none⟩ (.slice (some ⟨gb, 0, none⟩) ls.length c4)).setCell ⟨w.heap.size + 1, 0, none⟩ (.string pr)).setCell ⟨w.heap.size + 1, 1, none⟩ (.slice (some ⟨gh, 0, none⟩) hts.length ch)).setCell ⟨w.heap.size + 1, 2, none⟩ (.slice (some ⟨gb, 0, none⟩) ls.length c4)) :=
        ((((Mod.refl _ w4).setCell (p := ⟨w.heap.size, 2, none⟩) (fun _ => .inl rfl) _).setCell (p := ⟨w.heap.size + 1, 0, none⟩) (fun _ => .inr rfl) _).setCell (p := ⟨w.heap.size + 1, 1, none⟩) (fun _ => .inr rfl) _).setCell (p := ⟨w.heap.size + 1, 2, none⟩) (fun _ => .inr rfl) _
      have hb := heap_setCell_at (j := 2) (.slice (some ⟨gb, 0, none⟩) ls.length c4) (heap_setCell_at (j := 1) (.slice (some ⟨gh, 0, none⟩) hts.length ch) (heap_setCell_at (j := 0) (.string pr) (((Mod.refl (fun k => k = w.heap.size) w4).setCell (p := ⟨w.heap.size, 2, none⟩) (fun _ => rfl) (.slice (some ⟨gb, 0, none⟩) ls.length c4)).at HB14.out (by omega))))
      have z0 := cell_at (j := 0) (u := .string pr) hb rfl
      have z1 := cell_at (j := 1) (u := .slice (some ⟨gh, 0, none⟩) hts.length ch) hb rfl
      have z2 := cell_at (j := 2) (u := .slice (some ⟨gb, 0, none⟩) ls.length c4) hb rfl
      generalize ((((w4.setCell ⟨w.heap.size, 2, none⟩ (.slice (some ⟨gb, 0, none⟩) ls.length c4)).setCell ⟨w.heap.size + 1, 0, none⟩ (.string pr)).setCell ⟨w.heap.size + 1, 1, none⟩ (.slice (some ⟨gh, 0, none⟩) hts.length ch)).setCell ⟨w.heap.size + 1, 2, none⟩ (.slice (some ⟨gb, 0, none⟩) ls.length c4)) = W at *
      exact bodyPost_ret (v := .agg #[.string pr, .slice (some ⟨gh, 0, none⟩) hts.length ch, .slice (some ⟨gb, 0, none⟩) ls.length c4]) (by simp [results, Tryd.results15, go_sem, z0, z1, z2]) rfl
        ⟨gh, ch, gb, c4, xs, rfl, (hR.mod hm (by rintro b h (e | e) <;> omega)).mono (fun b h => ⟨by omega, by have := hm.size; omega⟩), hMf.step hm (fun i hi hs => by omega)⟩
end Go.Proofs.YtphgglnkdfndiaaDoor
/-
  ownProgram: a program in memory of its own.
-/
namespace Go.Proofs.YtphgglnkdfndiaaDoor
open Go Go.RowKit Go.Mine
set_option linter.unusedVariables false
set_option maxHeartbeats 8000000
set_option maxRecDepth 100000

/-- a rule of one's own: its blocks lie from lo on, below hi -/
structure Yr where
  r : Rm
  gh : Nat
  ch : Nat
  gb : Nat
  cb : Nat
  xs : List X3
  lo : Nat
  hi : Nat
def yV (y : Yr) : Rm × Value × Value := (y.r, .slice (some ⟨y.gh, 0, none⟩) y.r.head.terms.length y.ch, .slice (some ⟨y.gb, 0, none⟩) y.r.body.length y.cb)
def OwnY (w : World) (y : Yr) : Prop := OwnR w (fun b => y.lo ≤ b ∧ b < y.hi) y.r y.gh y.ch y.gb y.cb y.xs
def rM : Rm × Value × Value := (⟨⟨⟨#[60, 109, 97, 114, 107, 62]⟩, []⟩, []⟩, .slice none 0 0, .slice none 0 0)
structure OwnP (w : World) (lo : Nat) (rs : List Rm) (gp cp : Nat) (ys : List Yr) : Prop where
  hy : ys.map Yr.r = rs
  own : Mine.Own w 38 3 (some ⟨gp, 0, none⟩) (rs.length + 1) cp (rmsC (ys.map yV ++ [rM]))
  each : ∀ y ∈ ys, OwnY w y
  sep : ys.Pairwise fun y z => y.hi ≤ z.lo
  far : ∀ y ∈ ys, lo ≤ y.lo ∧ (gp < y.lo ∨ y.hi ≤ gp)
  lgp : lo ≤ gp
structure GathP (w wr : World) (lo : Nat) (rs : List Rm) (k : Nat) (a : Option Addr) (c : Nat) (ys : List Yr) : Prop where
  hy : ys.map Yr.r = rs.take k
  own : Mine.Own wr 38 3 a k c (rmsC (ys.map yV))
  each : ∀ y ∈ ys, OwnY wr y
  sep : ys.Pairwise fun y z => y.hi ≤ z.lo
  far : ∀ y ∈ ys, lo ≤ y.lo ∧ y.hi ≤ wr.heap.size ∧ ∀ b, blk a = some b → b < y.lo ∨ y.hi ≤ b
  la : ∀ b, blk a = some b → lo ≤ b
  mod : Mod (fun _ => False) w wr
theorem OwnR.lt {S : Nat → Prop} {w : World} {r : Rm} {gh ch gb cb : Nat} {xs : List X3} (h : OwnR w S r gh ch gb cb xs) : gh < w.heap.size := h.head.lt
theorem GathP.step {w wr v3 w4 : World} {lo : Nat} {rs : List Rm} {k c c4 : Nat} {a a4 : Option Addr} {ys : List Yr} {y : Yr} (h : GathP w wr lo rs k a c ys) (hk : k < rs.length) (hr : rs[k] = y.r) (hlo : w.heap.size ≤ lo) (hlw : lo ≤ wr.heap.size)
    (m : Mod (fun _ => False) wr v3) (hY : OwnY v3 y) (h1 : y.lo = wr.heap.size) (h2 : y.hi ≤ v3.heap.size)
    (hO : Mine.Own w4 38 3 a4 (k + 1) c4 (rmsC (ys.map yV) ++ rmC (yV y))) (hG : Grow v3 a w4 a4) : GathP w w4 lo rs (k + 1) a4 c4 (ys ++ [y]) := by
  have hal : ∀ b, blk a = some b → b < wr.heap.size := h.own.lt
  have hsz := hG.mod.size
  have hsz2 := m.size
  refine ⟨?_, ?_, ?_, ?_, ?_, ?_, ?_⟩
  · rw [List.map_append, h.hy, List.take_succ_eq_append_getElem hk, hr]; rfl
  · rw [List.map_append, rmsC_append]; exact hO
  · intro z hz
    rcases List.mem_append.1 hz with hz | hz
    · have hf := h.far z hz
      exact OwnR.mod (OwnR.mod (h.each z hz) m (fun _ _ => id)) hG.mod (fun b hb e => by rcases hf.2.2 b e with h | h <;> omega)
    · simp at hz; subst hz
      exact OwnR.mod hY hG.mod (fun b hb e => by have := hal b e; omega)
  · rw [List.pairwise_append]
    refine ⟨h.sep, by simp, fun z hz z' hz' => ?_⟩
    simp at hz'; subst hz'
    have := (h.far z hz).2.1
    omega
  · intro z hz
    rcases List.mem_append.1 hz with hz | hz
    · have hf := h.far z hz
      refine ⟨hf.1, by omega, fun b hb => ?_⟩
      rcases hG.pos with e | ⟨g', e, hg'⟩
      · rw [e] at hb; exact hf.2.2 b hb
      · rw [e] at hb; cases hb; right; omega
    · simp at hz; subst hz
      refine ⟨by omega, by omega, fun b hb => ?_⟩
      rcases hG.pos with e | ⟨g', e, hg'⟩
      · rw [e] at hb; left; have := hal b hb; omega
      · rw [e] at hb; cases hb; right; omega
  · intro b hb
    rcases hG.pos with e | ⟨g', e, hg'⟩
    · rw [e] at hb; exact h.la b hb
    · rw [e] at hb; cases hb; omega
  · exact (h.mod.trans m).step hG.mod (fun i hi hs => by have := h.la i hs; omega)
theorem GathP.fin {w wr w4 : World} {lo : Nat} {rs : List Rm} {c cp gp : Nat} {a : Option Addr} {ys : List Yr} (h : GathP w wr lo rs rs.length a c ys) (hlo : w.heap.size ≤ lo) (hlw : lo ≤ wr.heap.size)
    (hO : Mine.Own w4 38 3 (some ⟨gp, 0, none⟩) (rs.length + 1) cp (rmsC (ys.map yV) ++ rmC rM)) (hG : Grow wr a w4 (some ⟨gp, 0, none⟩)) :
    OwnP w4 lo rs gp cp ys ∧ Mod (fun _ => False) w w4 := by
  refine ⟨⟨?_, ?_, ?_, h.sep, ?_, ?_⟩, h.mod.step hG.mod (fun i hi hs => by have := h.la i hs; omega)⟩
  · rw [h.hy, List.take_length]
  · rw [rmsC_append]; exact hO
  · intro z hz
    have hf := h.far z hz
    exact OwnR.mod (h.each z hz) hG.mod (fun b hb e => by rcases hf.2.2 b e with h | h <;> omega)
  · intro z hz
    have hf := h.far z hz
    refine ⟨hf.1, ?_⟩
    rcases hG.pos with e | ⟨g', e, hg'⟩
    · exact hf.2.2 gp e.symm
    · simp at e; right; omega
  · rcases hG.pos with e | ⟨g', e, hg'⟩
    · exact h.la gp e.symm
    · simp at e; omega
theorem OwnP.mod {S : Nat → Prop} {w w' : World} {lo : Nat} {rs : List Rm} {gp cp : Nat} {ys : List Yr} (h : OwnP w lo rs gp cp ys) (m : Mod S w w') (hs : ∀ b, lo ≤ b → ¬ S b) : OwnP w' lo rs gp cp ys :=
  ⟨h.hy, Mine.Own.mod h.own m (fun b hb => by cases hb; exact hs _ h.lgp), fun y hy => OwnR.mod (h.each y hy) m (fun b hb => hs b (by have := (h.far y hy).1; omega)), h.sep, h.far, h.lgp⟩
theorem rmsC_one3 : True := trivial

theorem ownProgram_any (rs : List Rm) (v0 : Value) (w : World) (hr : RsAt w v0 rs) (hs : SmallPm rs) :
    Calls Tryd.prog 6 #[.agg #[v0]] w fun e w' => ∃ gp cp ys, e = .returned (.agg #[.slice (some ⟨gp, 0, none⟩) rs.length cp]) ∧
      OwnP w' (w.heap.size + 2) rs gp cp ys ∧ Mod (fun _ => False) w w' := by
  obtain ⟨hsl, hss⟩ := hs
  obtain ⟨ad, c, xv, rfl, hx, hrx, hxt⟩ := hr
  have HR := Lib.hid hrx; have HX := Lib.hid hx; have HXT := Lib.hid hxt; have HSS := Lib.hid hss
  clear hrx hx hxt hss
  have hm0 : Mod (fun _ => False) w ((w.alloc (.cells #[.slice ad rs.length c] 24)).alloc (.cells #[.slice none 0 0] 24)) := ((Mod.refl _ w).alloc _).alloc _
  have hb0 : ((w.alloc (.cells #[.slice ad rs.length c] 24)).alloc (.cells #[.slice none 0 0] 24)).heap[w.heap.size]? = some (.cells #[.slice ad rs.length c] 24 (0, 0)) :=
    ((Mod.refl (fun _ => False) _).alloc _).at (heap_alloc_new w _) id
  have hb1 : ((w.alloc (.cells #[.slice ad rs.length c] 24)).alloc (.cells #[.slice none 0 0] 24)).heap[w.heap.size + 1]? = some (.cells #[.slice none 0 0] 24 (0, 0)) := by
    have := heap_alloc_new (w.alloc (.cells #[.slice ad rs.length c] 24)) (.cells #[.slice none 0 0] 24)
    simpa using this
  have hs2 : w.heap.size + 2 ≤ ((w.alloc (.cells #[.slice ad rs.length c] 24)).alloc (.cells #[.slice none 0 0] 24)).heap.size := by simp
  go_enter Tryd.func6, Tryd.ntmps6
  go_wp2_with fail
  generalize ((w.alloc (.cells #[.slice ad rs.length c] 24)).alloc (.cells #[.slice none 0 0] 24)) = w2 at *
  have HG0 : Hid (GathP w w2 (w.heap.size + 2) rs 0 none 0 []) :=
    ⟨rfl, Mine.Own.nil _ _ _, (fun _ h => by cases h), List.Pairwise.nil, (fun _ h => by cases h), (by intro b h; simp at h), hm0⟩
  have HB0 := Lib.hid hb0; have HB1 := Lib.hid hb1
  clear hb0 hb1 hm0
  go_loopw [3, 4] (fun lv iv wr => ∃ (k c' : Nat) (a' : Option Addr) (ys : List Yr), lv = .slice a' k c' ∧ iv = .int .i64 k ∧ k ≤ rs.length ∧ Hid (GathP w wr (w.heap.size + 2) rs k a' c' ys) ∧ w.heap.size + 2 ≤ wr.heap.size ∧ Hid (wr.heap[w.heap.size]? = some (.cells #[.slice ad rs.length c] 24 (0, 0))) ∧ Hid (wr.heap[w.heap.size + 1]? = some (.cells #[.slice none 0 0] 24 (0, 0)))) (fun _ iv _ => rs.length - (intOf iv).toNat)
  case atStart => exact ⟨0, 0, none, [], rfl, rfl, Nat.zero_le _, HG0, hs2, HB0, HB1⟩
  case round =>
    obtain ⟨k, c', a', ys, rfl, rfl, hk, hG, hsw, hB0, hB1⟩ := hrel
    clear HG0 HB0 HB1 hs2
    have c2 := cell_at (j := 0) hB0.out rfl
    by_cases hlt : k < rs.length
    · obtain ⟨⟨sk, bk⟩, hx, hmem⟩ := xs_get HX.out hlt
      obtain ⟨bb, o, rfl, x0, x1, x2⟩ := rd_cellR (HR.out.mod hG.out.mod (fun _ _ => id)) hx
      have hsm := HSS.out _ (List.getElem_mem hlt)
      have HA := Lib.hid (own_any rs[k] sk bk wr ((HXT.out _ hmem).1.mod0 hG.out.mod) ((HXT.out _ hmem).2.mod0 hG.out.mod) hsm.1.2.1 hsm.2.1 (fun l hl => (hsm.2.2 l hl).1.2.1))
      obtain ⟨⟨sa, sc, hsk, _⟩, ⟨ba, bc, _, hbk, _⟩⟩ := HXT.out _ hmem
      simp only at hsk hbk
      subst hsk hbk
      clear hx hmem hsm
      unfold rmV at HA
      obtain ⟨t, hteq⟩ : ∃ t, t = rs[k] := ⟨_, rfl⟩
      rw [← hteq] at x0 x1 x2 HA
      have HTE : Hid (rs[k] = t) := hteq.symm
      clear hteq
      obtain ⟨⟨lp, lts⟩, lb⟩ := t
      simp only at x0 x1 x2 HA
      go_wp2_with fail
      refine HA.out.mono ?_
      rintro e v1 ⟨gh, ch, gb, cb, xs, rfl, hY, hMv⟩
      have hm3 : Mod (fun _ => False) wr (v1.alloc (.cells #[.string lp, .slice (some ⟨gh, 0, none⟩) lts.length ch, .slice (some ⟨gb, 0, none⟩) lb.length cb] 38)) := hMv.alloc _
      have HY : Hid (OwnY (v1.alloc (.cells #[.string lp, .slice (some ⟨gh, 0, none⟩) lts.length ch, .slice (some ⟨gb, 0, none⟩) lb.length cb] 38)) ⟨⟨⟨lp, lts⟩, lb⟩, gh, ch, gb, cb, xs, wr.heap.size, v1.heap.size⟩) :=
        OwnR.mod hY ((Mod.refl (fun _ => False) v1).alloc _) (fun _ _ => id)
      have HOO := Lib.hid (hG.out.own.mod hm3 (fun _ _ => id))
      have HM3 := Lib.hid hm3
      have hsv : v1.heap.size ≤ (v1.alloc (.cells #[.string lp, .slice (some ⟨gh, 0, none⟩) lts.length ch, .slice (some ⟨gb, 0, none⟩) lb.length cb] 38)).heap.size := by simp
      have HSV := Lib.hid hsv
      clear hm3 hY hMv HA hsv
      go_wp2_with (at_builtin; refine wpL_appendN (us := [.string lp, .slice (some ⟨gh, 0, none⟩) lts.length ch, .slice (some ⟨gb, 0, none⟩) lb.length cb]) rfl (.tmp 19) (.tmp 21) 22 rfl tiR rfl HOO.out rfl rfl rfl (by omega) (by unfold maxLen; omega) ?_; intro a4 c4 w4 hO4 hG4 _; have HO4 := Lib.hid hO4; have HG4 := Lib.hid hG4; clear hO4 hG4)
      have HGS := Lib.hid (hG.out.step (y := ⟨⟨⟨lp, lts⟩, lb⟩, gh, ch, gb, cb, xs, wr.heap.size, v1.heap.size⟩) hlt HTE.out (by omega) hsw HM3.out HY.out rfl HSV.out HO4.out HG4.out)
      have hsz4 := Nat.le_trans HM3.out.size HG4.out.mod.size
      have HB04 := Lib.hid (HG4.out.mod.at (HM3.out.at hB0.out id) (fun e => by have := hG.out.la _ e; omega))
      have HB14 := Lib.hid (HG4.out.mod.at (HM3.out.at hB1.out id) (fun e => by have := hG.out.la _ e; omega))
      go_roundw
      case rel => exact ⟨k + 1, c4, a4, _, rfl, by go_num, hlt, HGS, by omega, HB04, HB14⟩
      case measure => simp [intOf]; omega
    · obtain rfl : k = rs.length := by omega
      go_wp2_with (at_builtin; refine wpL_appendN (us := [.string ⟨#[60, 109, 97, 114, 107, 62]⟩, .slice none 0 0, .slice none 0 0]) rfl (.tmp 23) (.tmp 26) 22 rfl tiR rfl hG.out.own rfl rfl rfl (by omega) (by unfold maxLen; omega) ?_; intro a4 c4 w4 hO4 hG4 _
                   obtain ⟨gp, rfl⟩ := hO4.atHead (by omega)
                   have hc4 : rs.length + 1 ≤ c4 ∧ c4 ≤ maxLen := by
                     obtain ⟨_, _, _, _, h1, h2, _⟩ := hO4.2.resolve_left (by simp)
                     exact ⟨h1, h2⟩
                   obtain ⟨hc4, hcm⟩ := hc4
                   unfold maxLen at hcm
                   have hb04 := hG4.mod.at hB0.out (fun e => by have := hG.out.la _ e; omega)
                   have hb14 := hG4.mod.at hB1.out (fun e => by have := hG.out.la _ e; omega)
                   have d0 := cell_at (j := 0) hb04 rfl
                   have e0 := cell_at (j := 0) hb14 rfl
                   have q0 : w4.frozen? ⟨w.heap.size + 1, 0, none⟩ = false := frozen_at hb14
                   have HF := Lib.hid (hG.out.fin (by omega) hsw hO4 hG4)
                   have HB14 := Lib.hid hb14
                   clear hO4 hG4 hb04 hb14)
      obtain ⟨hR, hMf⟩ := HF.out
      have hm : Mod (fun k => k = w.heap.size + 1) w4 (w4.setCell ⟨w.heap.size + 1, 0, none⟩ (.slice (some ⟨gp, 0, none⟩) rs.length c4)) :=
        (Mod.refl (fun k => k = w.heap.size + 1) w4).setCell (p := ⟨w.heap.size + 1, 0, none⟩) (fun _ => rfl) _
      have hb := heap_setCell_at (j := 0) (.slice (some ⟨gp, 0, none⟩) rs.length c4) HB14.out
      have z0 := cell_at (j := 0) (u := .slice (some ⟨gp, 0, none⟩) rs.length c4) hb rfl
      generalize (w4.setCell ⟨w.heap.size + 1, 0, none⟩ (.slice (some ⟨gp, 0, none⟩) rs.length c4)) = W at *
      exact bodyPost_ret (v := .agg #[.slice (some ⟨gp, 0, none⟩) rs.length c4]) (by simp [results, Tryd.results6, go_sem, z0]) rfl
        ⟨gp, c4, ys, rfl, hR.mod hm (fun b h e => by omega), hMf.step hm (fun i hi hs => by omega)⟩
end Go.Proofs.YtphgglnkdfndiaaDoor
