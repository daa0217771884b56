/-
  Atoms of one's own, the mark behind their terms (08): lentAtom, markAtom.
-/
import Derived.Test.YteecbbnpgmceiaaGreatDoorOwG
import Derived.Test.YteecbbnpgmceiaaGreatDoorMayG
import Derived.Test.YteecbbnpgmceiaaGreatDoorLawA
namespace Go.Proofs.YteecbbnpgmceiaaGreatDoor.L8
open Go Go.RowKit Go.Mine
set_option linter.unusedVariables false
set_option maxHeartbeats 4000000
set_option maxRecDepth 100000

def tM : Tm := ⟨-71, ⟨#[]⟩⟩
/-- terms of one's own in block g, the mark behind them -/
def OwnT (w : World) (g c : Nat) (ts : List Tm) : Prop := Mine.Own w 100 2 (some ⟨g, 0, none⟩) (ts.length + 1) c (tmsC (ts ++ [tM]))
theorem OwnT.mod {S : Nat → Prop} {w w' : World} {g c : Nat} {ts : List Tm} (h : OwnT w g c ts) (m : Mod S w w') (hs : ¬ S g) : OwnT w' g c ts :=
  Mine.Own.mod h m (fun b hb => by cases hb; exact hs)
theorem OwnT.lt {w : World} {g c : Nat} {ts : List Tm} (h : OwnT w g c ts) : g < w.heap.size := Mine.Own.lt h g rfl
theorem OwnT.cap {w : World} {g c : Nat} {ts : List Tm} (h : OwnT w g c ts) : ts.length + 1 ≤ c ∧ c ≤ maxLen := by
  obtain ⟨_, _, _, _, h1, h2, _⟩ := h.2.resolve_left (by simp)
  exact ⟨h1, h2⟩
theorem OwnT.at {w : World} {g c : Nat} {ts : List Tm} (h : OwnT w g c ts) : TsAt w (.slice (some ⟨g, 0, none⟩) ts.length c) ts := by
  refine ⟨_, _, rfl, ?_⟩
  have := (Mine.Own.rd h).take (ts.length * 2)
  rw [tmsC_append, List.take_left' (by simp)] at this
  exact this
theorem OwnT.mark {w : World} {g c : Nat} {ts : List Tm} (h : OwnT w g c ts) : w.cell? ⟨g, ts.length * 2, none⟩ = some (.int .i64 (-71)) := by
  obtain ⟨b, o, e, q⟩ := Mine.Own.rd h (ts.length * 2) (.int .i64 (-71)) (by
    rw [tmsC_append, List.getElem?_append_right (by rw [tmsC_length]; exact Nat.le_refl _), tmsC_length, Nat.sub_self]; rfl)
  cases e
  simpa using q
end Go.Proofs.YteecbbnpgmceiaaGreatDoor.L8
/-
  lentRule (08): a rule in memory of its own.
-/
namespace Go.Proofs.YteecbbnpgmceiaaGreatDoor.L8
open Go Go.RowKit Go.Mine
set_option linter.unusedVariables false
set_option maxHeartbeats 8000000
set_option maxRecDepth 100000

def lM : Lm := ⟨-72, ⟨⟨#[]⟩, []⟩, 0, ⟨0, ⟨#[]⟩⟩, ⟨0, ⟨#[]⟩⟩⟩
/-- a literal, the block of its terms, and its room -/
abbrev X3 := Lm × Nat × Nat
def x3V (x : X3) : Lm × Value := (x.1, .slice (some ⟨x.2.1, 0, none⟩) x.1.atom.terms.length x.2.2)
def xsV (xs : List X3) : List (Lm × Value) := xs.map x3V
@[simp] theorem xsV_length (xs : List X3) : (xsV xs).length = xs.length := by simp [xsV]
def OwnL (w : World) (g c : Nat) (xs : List X3) : Prop := Mine.Own w 102 8 (some ⟨g, 0, none⟩) (xs.length + 1) c (lmsC (xsV xs ++ [(lM, .slice none 0 0)]))
def blks (xs : List X3) : List Nat := xs.map fun x => x.2.1
structure OwnR (w : World) (S : Nat → Prop) (r : Rm) (gh ch gb cb : Nat) (xs : List X3) : Prop where
  hx : xs.map Prod.fst = r.body
  head : OwnT w gh ch r.head.terms
  body : OwnL w gb cb xs
  terms : ∀ x ∈ xs, OwnT w x.2.1 x.2.2 x.1.atom.terms
  nd : (gh :: gb :: blks xs).Nodup
  inS : ∀ b ∈ gh :: gb :: blks xs, S b
theorem lmsC_one8 (us : List Value) (h : us.all Value.oneCell' = true) : us.all Value.oneCell' = true := h
/-- what own has gathered so far -/
structure Gath (w wr : World) (lo : Nat) (gh ch : Nat) (hts : List Tm) (ls : List Lm) (k : Nat) (a : Option Addr) (c : Nat) (xs : List X3) : Prop where
  hx : xs.map Prod.fst = ls.take k
  own : Mine.Own wr 102 8 a k c (lmsC (xsV xs))
  head : OwnT wr gh ch hts
  terms : ∀ x ∈ xs, OwnT wr x.2.1 x.2.2 x.1.atom.terms
  nd : (gh :: blks xs).Nodup
  far : ∀ b ∈ gh :: blks xs, lo ≤ b ∧ b < wr.heap.size ∧ blk a ≠ some b
  la : ∀ b, blk a = some b → lo ≤ b
  mod : Mod (fun _ => False) w wr
theorem Gath.step {w wr v3 w4 : World} {lo gh ch : Nat} {hts : List Tm} {ls : List Lm} {k c c4 g cg : Nat} {a a4 : Option Addr} {xs : List X3} {t : Lm} (h : Gath w wr lo gh ch hts ls k a c xs) (hk : k < ls.length) (ht : ls[k] = t) (hlo : w.heap.size ≤ lo) (hlw : lo ≤ wr.heap.size)
    (m : Mod (fun _ => False) wr v3) (hT : OwnT v3 g cg t.atom.terms) (hg : wr.heap.size ≤ g)
    (hO : Mine.Own w4 102 8 a4 (k + 1) c4 (lmsC (xsV xs) ++ lmC (x3V (t, g, cg)))) (hG : Grow v3 a w4 a4) : Gath w w4 lo gh ch hts ls (k + 1) a4 c4 (xs ++ [(t, g, cg)]) := by
  have hal : ∀ b, blk a = some b → b < wr.heap.size := h.own.lt
  have hm4 : ∀ b, b < wr.heap.size → blk a ≠ some b → ∀ cs ts, OwnT wr b cs ts → OwnT w4 b cs ts := fun b hb hne cs ts ho => (ho.mod m id).mod hG.mod hne
  have hgl := hT.lt
  have hga : blk a ≠ some g := fun e => by have := hal g e; omega
  have hsz := hG.mod.size
  have hsz2 := m.size
  have hne4 : ∀ b, b < v3.heap.size → blk a ≠ some b → blk a4 ≠ some b := fun b hb hne => hG.ne hb hne
  refine ⟨?_, ?_, ?_, ?_, ?_, ?_, ?_, ?_⟩
  · rw [List.map_append, h.hx, List.take_succ_eq_append_getElem hk, ht]; rfl
  · unfold xsV; rw [List.map_append, lmsC_append]; exact hO
  · have := h.far gh (List.mem_cons_self ..)
    exact hm4 gh this.2.1 this.2.2 _ _ h.head
  · intro x hx
    rcases List.mem_append.1 hx with hx | hx
    · have := h.far x.2.1 (List.mem_cons_of_mem _ (List.mem_map.2 ⟨x, hx, rfl⟩))
      exact hm4 _ this.2.1 this.2.2 _ _ (h.terms x hx)
    · simp at hx; subst hx
      exact hT.mod hG.mod hga
  · have e : gh :: blks (xs ++ [(t, g, cg)]) = (gh :: blks xs) ++ [g] := by simp [blks]
    rw [e, List.nodup_append]
    refine ⟨h.nd, by simp, fun b hb b' hb' => ?_⟩
    simp at hb'; subst hb'
    have := (h.far b hb).2.1
    omega
  · have e : gh :: blks (xs ++ [(t, g, cg)]) = (gh :: blks xs) ++ [g] := by simp [blks]
    rw [e]
    intro b hb
    rcases List.mem_append.1 hb with hb | hb
    · have := h.far b hb
      exact ⟨this.1, by omega, hne4 b (by omega) this.2.2⟩
    · simp at hb; subst hb
      exact ⟨by omega, by omega, hne4 b hgl hga⟩
  · intro b hb
    rcases hG.pos with e | ⟨g', e, hg'⟩
    · rw [e] at hb; exact h.la b hb
    · rw [e] at hb; cases hb; omega
  · exact (h.mod.trans m).step hG.mod (fun i hi hs => by have := h.la i hs; omega)
theorem Gath.fin {w wr v3 w4 : World} {lo gh ch : Nat} {hts : List Tm} {pr : ByteArray} {ls : List Lm} {c cb gb : Nat} {a : Option Addr} {xs : List X3} (h : Gath w wr lo gh ch hts ls ls.length a c xs) (hlo : w.heap.size ≤ lo) (hlw : lo ≤ wr.heap.size)
    (m : Mod (fun _ => False) wr v3) (hO : Mine.Own w4 102 8 (some ⟨gb, 0, none⟩) (ls.length + 1) cb (lmsC (xsV xs) ++ lmC (lM, .slice none 0 0))) (hG : Grow v3 a w4 (some ⟨gb, 0, none⟩)) :
    OwnR w4 (fun b => lo ≤ b ∧ b < w4.heap.size) ⟨⟨pr, hts⟩, ls⟩ gh ch gb cb xs ∧ Mod (fun _ => False) w w4 := by
  have hm4 : ∀ b, b < wr.heap.size → blk a ≠ some b → ∀ cs ts, OwnT wr b cs ts → OwnT w4 b cs ts := fun b hb hne cs ts ho => (ho.mod m id).mod hG.mod hne
  have hsz := hG.mod.size
  have hsz2 := m.size
  have hgb4 : gb < w4.heap.size := hO.lt gb rfl
  have hgbl : lo ≤ gb := by
    rcases hG.pos with e | ⟨g', e, hg'⟩
    · exact h.la gb e.symm
    · simp at e; omega
  have hlen : xs.length = ls.length := by
    have := congrArg List.length h.hx
    simpa using this
  have hne : ∀ b ∈ gh :: blks xs, b ≠ gb := fun b hb e => by
    have h2 := h.far b hb
    exact hG.ne (b := b) (by omega) h2.2.2 (by rw [e]; rfl)
  refine ⟨⟨?_, ?_, ?_, ?_, ?_, ?_⟩, (h.mod.trans m).step hG.mod (fun i hi hs => by have := h.la i hs; omega)⟩
  · rw [h.hx, List.take_length]
  · have := h.far gh (List.mem_cons_self ..)
    exact hm4 gh this.2.1 this.2.2 _ _ h.head
  · unfold OwnL; rw [hlen, lmsC_append]; exact hO
  · intro x hx
    have := h.far x.2.1 (List.mem_cons_of_mem _ (List.mem_map.2 ⟨x, hx, rfl⟩))
    exact hm4 _ this.2.1 this.2.2 _ _ (h.terms x hx)
  · have hnd := h.nd
    rw [List.nodup_cons] at hnd ⊢
    rw [List.nodup_cons]
    refine ⟨fun hm => ?_, fun hm => hne gb (List.mem_cons_of_mem _ hm) rfl, hnd.2⟩
    rcases List.mem_cons.1 hm with e | hm
    · exact hne gh (List.mem_cons_self ..) e
    · exact hnd.1 hm
  · intro b hb
    rcases List.mem_cons.1 hb with rfl | hb
    · have := h.far b (List.mem_cons_self ..); exact ⟨this.1, by omega⟩
    · rcases List.mem_cons.1 hb with rfl | hb
      · exact ⟨hgbl, hgb4⟩
      · have := h.far b (List.mem_cons_of_mem _ hb); exact ⟨this.1, by omega⟩
theorem OwnR.mod {S T : Nat → Prop} {w w' : World} {r : Rm} {gh ch gb cb : Nat} {xs : List X3} (h : OwnR w S r gh ch gb cb xs) (m : Mod T w w') (hs : ∀ b, S b → ¬ T b) : OwnR w' S r gh ch gb cb xs :=
  ⟨h.hx, h.head.mod m (hs _ (h.inS gh (List.mem_cons_self ..))), Mine.Own.mod h.body m (fun b hb => by cases hb; exact hs _ (h.inS gb (List.mem_cons_of_mem _ (List.mem_cons_self ..)))),
    fun x hx => (h.terms x hx).mod m (hs _ (h.inS _ (List.mem_cons_of_mem _ (List.mem_cons_of_mem _ (List.mem_map.2 ⟨x, hx, rfl⟩))))), h.nd, h.inS⟩
theorem OwnR.mono {S T : Nat → Prop} {w : World} {r : Rm} {gh ch gb cb : Nat} {xs : List X3} (h : OwnR w S r gh ch gb cb xs) (hs : ∀ b, S b → T b) : OwnR w T r gh ch gb cb xs :=
  ⟨h.hx, h.head, h.body, h.terms, h.nd, fun b hb => hs b (h.inS b hb)⟩
end Go.Proofs.YteecbbnpgmceiaaGreatDoor.L8
/-
  lentRule walked.
-/
namespace Go.Proofs.YteecbbnpgmceiaaGreatDoor.L8
open Go Go.RowKit Go.Mine
set_option linter.unusedVariables false
set_option maxHeartbeats 8000000
set_option maxRecDepth 100000

end Go.Proofs.YteecbbnpgmceiaaGreatDoor.L8
/-
  lent (08): a program in memory of its own.
-/
namespace Go.Proofs.YteecbbnpgmceiaaGreatDoor.L8
open Go Go.RowKit Go.Mine
set_option linter.unusedVariables false
set_option maxHeartbeats 8000000
set_option maxRecDepth 100000

/-- a rule of one's own: its blocks lie from lo on, below hi -/
structure Yr where
  r : Rm
  gh : Nat
  ch : Nat
  gb : Nat
  cb : Nat
  xs : List X3
  lo : Nat
  hi : Nat
def yV (y : Yr) : Rm × Value × Value := (y.r, .slice (some ⟨y.gh, 0, none⟩) y.r.head.terms.length y.ch, .slice (some ⟨y.gb, 0, none⟩) y.r.body.length y.cb)
def OwnY (w : World) (y : Yr) : Prop := OwnR w (fun b => y.lo ≤ b ∧ b < y.hi) y.r y.gh y.ch y.gb y.cb y.xs
def rM : Rm × Value × Value := (⟨⟨⟨#[109, 97, 114, 107]⟩, []⟩, []⟩, .slice none 0 0, .slice none 0 0)
structure OwnP (w : World) (lo : Nat) (rs : List Rm) (gp cp : Nat) (ys : List Yr) : Prop where
  hy : ys.map Yr.r = rs
  own : Mine.Own w 46 3 (some ⟨gp, 0, none⟩) (rs.length + 1) cp (rmsC (ys.map yV ++ [rM]))
  each : ∀ y ∈ ys, OwnY w y
  sep : ys.Pairwise fun y z => y.hi ≤ z.lo
  far : ∀ y ∈ ys, lo ≤ y.lo ∧ (gp < y.lo ∨ y.hi ≤ gp)
  lgp : lo ≤ gp
structure GathP (w wr : World) (lo : Nat) (rs : List Rm) (k : Nat) (a : Option Addr) (c : Nat) (ys : List Yr) : Prop where
  hy : ys.map Yr.r = rs.take k
  own : Mine.Own wr 46 3 a k c (rmsC (ys.map yV))
  each : ∀ y ∈ ys, OwnY wr y
  sep : ys.Pairwise fun y z => y.hi ≤ z.lo
  far : ∀ y ∈ ys, lo ≤ y.lo ∧ y.hi ≤ wr.heap.size ∧ ∀ b, blk a = some b → b < y.lo ∨ y.hi ≤ b
  la : ∀ b, blk a = some b → lo ≤ b
  mod : Mod (fun _ => False) w wr
theorem OwnR.lt {S : Nat → Prop} {w : World} {r : Rm} {gh ch gb cb : Nat} {xs : List X3} (h : OwnR w S r gh ch gb cb xs) : gh < w.heap.size := h.head.lt
theorem GathP.step {w wr v3 w4 : World} {lo : Nat} {rs : List Rm} {k c c4 : Nat} {a a4 : Option Addr} {ys : List Yr} {y : Yr} (h : GathP w wr lo rs k a c ys) (hk : k < rs.length) (hr : rs[k] = y.r) (hlo : w.heap.size ≤ lo) (hlw : lo ≤ wr.heap.size)
    (m : Mod (fun _ => False) wr v3) (hY : OwnY v3 y) (h1 : y.lo = wr.heap.size) (h2 : y.hi ≤ v3.heap.size)
    (hO : Mine.Own w4 46 3 a4 (k + 1) c4 (rmsC (ys.map yV) ++ rmC (yV y))) (hG : Grow v3 a w4 a4) : GathP w w4 lo rs (k + 1) a4 c4 (ys ++ [y]) := by
  have hal : ∀ b, blk a = some b → b < wr.heap.size := h.own.lt
  have hsz := hG.mod.size
  have hsz2 := m.size
  refine ⟨?_, ?_, ?_, ?_, ?_, ?_, ?_⟩
  · rw [List.map_append, h.hy, List.take_succ_eq_append_getElem hk, hr]; rfl
  · rw [List.map_append, rmsC_append]; exact hO
  · intro z hz
    rcases List.mem_append.1 hz with hz | hz
    · have hf := h.far z hz
      exact OwnR.mod (OwnR.mod (h.each z hz) m (fun _ _ => id)) hG.mod (fun b hb e => by rcases hf.2.2 b e with h | h <;> omega)
    · simp at hz; subst hz
      exact OwnR.mod hY hG.mod (fun b hb e => by have := hal b e; omega)
  · rw [List.pairwise_append]
    refine ⟨h.sep, by simp, fun z hz z' hz' => ?_⟩
    simp at hz'; subst hz'
    have := (h.far z hz).2.1
    omega
  · intro z hz
    rcases List.mem_append.1 hz with hz | hz
    · have hf := h.far z hz
      refine ⟨hf.1, by omega, fun b hb => ?_⟩
      rcases hG.pos with e | ⟨g', e, hg'⟩
      · rw [e] at hb; exact hf.2.2 b hb
      · rw [e] at hb; cases hb; right; omega
    · simp at hz; subst hz
      refine ⟨by omega, by omega, fun b hb => ?_⟩
      rcases hG.pos with e | ⟨g', e, hg'⟩
      · rw [e] at hb; left; have := hal b hb; omega
      · rw [e] at hb; cases hb; right; omega
  · intro b hb
    rcases hG.pos with e | ⟨g', e, hg'⟩
    · rw [e] at hb; exact h.la b hb
    · rw [e] at hb; cases hb; omega
  · exact (h.mod.trans m).step hG.mod (fun i hi hs => by have := h.la i hs; omega)
theorem GathP.fin {w wr w4 : World} {lo : Nat} {rs : List Rm} {c cp gp : Nat} {a : Option Addr} {ys : List Yr} (h : GathP w wr lo rs rs.length a c ys) (hlo : w.heap.size ≤ lo) (hlw : lo ≤ wr.heap.size)
    (hO : Mine.Own w4 46 3 (some ⟨gp, 0, none⟩) (rs.length + 1) cp (rmsC (ys.map yV) ++ rmC rM)) (hG : Grow wr a w4 (some ⟨gp, 0, none⟩)) :
    OwnP w4 lo rs gp cp ys ∧ Mod (fun _ => False) w w4 := by
  refine ⟨⟨?_, ?_, ?_, h.sep, ?_, ?_⟩, h.mod.step hG.mod (fun i hi hs => by have := h.la i hs; omega)⟩
  · rw [h.hy, List.take_length]
  · rw [rmsC_append]; exact hO
  · intro z hz
    have hf := h.far z hz
    exact OwnR.mod (h.each z hz) hG.mod (fun b hb e => by rcases hf.2.2 b e with h | h <;> omega)
  · intro z hz
    have hf := h.far z hz
    refine ⟨hf.1, ?_⟩
    rcases hG.pos with e | ⟨g', e, hg'⟩
    · exact hf.2.2 gp e.symm
    · simp at e; right; omega
  · rcases hG.pos with e | ⟨g', e, hg'⟩
    · exact h.la gp e.symm
    · simp at e; omega
theorem OwnP.mod {S : Nat → Prop} {w w' : World} {lo : Nat} {rs : List Rm} {gp cp : Nat} {ys : List Yr} (h : OwnP w lo rs gp cp ys) (m : Mod S w w') (hs : ∀ b, lo ≤ b → ¬ S b) : OwnP w' lo rs gp cp ys :=
  ⟨h.hy, Mine.Own.mod h.own m (fun b hb => by cases hb; exact hs _ h.lgp), fun y hy => OwnR.mod (h.each y hy) m (fun b hb => hs b (by have := (h.far y hy).1; omega)), h.sep, h.far, h.lgp⟩
theorem rmsC_one3 : True := trivial

end Go.Proofs.YteecbbnpgmceiaaGreatDoor.L8
/-
  kept (08): a program that was lent is as it was, the marks too.
-/
namespace Go.Proofs.YteecbbnpgmceiaaGreatDoor.L8
open Go Go.RowKit Go.Mine
set_option linter.unusedVariables false
set_option maxHeartbeats 8000000
set_option maxRecDepth 100000

theorem OwnL.at {w : World} {g c : Nat} {xs : List X3} (h : OwnL w g c xs) : Rd w (some ⟨g, 0, none⟩) (lmsC (xsV xs)) := by
  have := (Mine.Own.rd h).take (xs.length * 8)
  rw [lmsC_append, List.take_left' (by simp)] at this
  exact this
theorem OwnL.mark {w : World} {g c : Nat} {xs : List X3} (h : OwnL w g c xs) : w.cell? ⟨g, xs.length * 8, none⟩ = some (.int .i64 (-72)) := by
  obtain ⟨b, o, e, q⟩ := Mine.Own.rd h (xs.length * 8) (.int .i64 (-72)) (by
    rw [lmsC_append, List.getElem?_append_right (by rw [lmsC_length, xsV_length]; exact Nat.le_refl _), lmsC_length, xsV_length, Nat.sub_self]; rfl)
  cases e
  simpa using q
theorem OwnL.cap {w : World} {g c : Nat} {xs : List X3} (h : OwnL w g c xs) : xs.length + 1 ≤ c ∧ c ≤ maxLen := by
  obtain ⟨_, _, _, _, h1, h2, _⟩ := h.2.resolve_left (by simp)
  exact ⟨h1, h2⟩
/-- a rule of one's own, as its cells say it -/
theorem OwnR.lsAt {S : Nat → Prop} {w : World} {r : Rm} {gh ch gb cb : Nat} {xs : List X3} (h : OwnR w S r gh ch gb cb xs) : LsAt w (.slice (some ⟨gb, 0, none⟩) r.body.length cb) r.body := by
  have hl : xs.length = r.body.length := by have := congrArg List.length h.hx; simpa using this
  refine ⟨_, _, xsV xs, rfl, ?_, OwnL.at h.body, ?_⟩
  · rw [← h.hx]; unfold xsV; rw [List.map_map]; rfl
  · intro x hx
    unfold xsV at hx
    obtain ⟨y, hy, rfl⟩ := List.mem_map.1 hx
    exact (h.terms y hy).at

theorem OwnR.lit {S : Nat → Prop} {w : World} {r : Rm} {gh ch gb cb : Nat} {xs : List X3} (h : OwnR w S r gh ch gb cb xs) {k : Nat} (hk : k < r.body.length) :
    ∃ g c, (r.body[k], g, c) ∈ xs ∧ (xsV xs)[k]? = some (r.body[k], .slice (some ⟨g, 0, none⟩) r.body[k].atom.terms.length c) := by
  have hl : xs.length = r.body.length := by have := congrArg List.length h.hx; simpa using this
  have hk' : k < xs.length := by omega
  have e : xs[k].1 = r.body[k] := by
    have h1 : (xs.map Prod.fst)[k]? = some xs[k].1 := by simp [hk']
    rw [h.hx, List.getElem?_eq_getElem hk] at h1
    exact (Option.some.inj h1).symm
  refine ⟨xs[k].2.1, xs[k].2.2, ?_, ?_⟩
  · rw [← e]; exact List.getElem_mem hk'
  · unfold xsV
    rw [List.getElem?_map, List.getElem?_eq_getElem hk']
    simp only [Option.map_some, x3V, e]
theorem OwnP.at {w : World} {lo : Nat} {rs : List Rm} {gp cp : Nat} {ys : List Yr} (h : OwnP w lo rs gp cp ys) : Rd w (some ⟨gp, 0, none⟩) (rmsC (ys.map yV)) := by
  have hl : ys.length = rs.length := by have := congrArg List.length h.hy; simpa using this
  have := (Mine.Own.rd h.own).take (ys.length * 3)
  rw [rmsC_append, List.take_left' (by simp)] at this
  exact this
theorem OwnP.mark {w : World} {lo : Nat} {rs : List Rm} {gp cp : Nat} {ys : List Yr} (h : OwnP w lo rs gp cp ys) : w.cell? ⟨gp, rs.length * 3, none⟩ = some (.string ⟨#[109, 97, 114, 107]⟩) := by
  have hl : ys.length = rs.length := by have := congrArg List.length h.hy; simpa using this
  obtain ⟨b, o, e, q⟩ := Mine.Own.rd h.own (rs.length * 3) (.string ⟨#[109, 97, 114, 107]⟩) (by
    rw [rmsC_append, List.getElem?_append_right (by rw [rmsC_length, List.length_map, hl]; exact Nat.le_refl _), rmsC_length, List.length_map, hl, Nat.sub_self]; rfl)
  cases e
  simpa using q
theorem OwnP.cap {w : World} {lo : Nat} {rs : List Rm} {gp cp : Nat} {ys : List Yr} (h : OwnP w lo rs gp cp ys) : rs.length + 1 ≤ cp ∧ cp ≤ maxLen := by
  obtain ⟨_, _, _, _, h1, h2, _⟩ := h.own.2.resolve_left (by simp)
  exact ⟨h1, h2⟩
theorem OwnP.rsAt {w : World} {lo : Nat} {rs : List Rm} {gp cp : Nat} {ys : List Yr} (h : OwnP w lo rs gp cp ys) : RsAt w (.slice (some ⟨gp, 0, none⟩) rs.length cp) rs := by
  refine ⟨_, _, ys.map yV, rfl, ?_, h.at, ?_⟩
  · rw [← h.hy, List.map_map]; rfl
  · intro x hx
    obtain ⟨y, hy, rfl⟩ := List.mem_map.1 hx
    exact ⟨(h.each y hy).head.at, (h.each y hy).lsAt⟩

theorem SmallRm.smR {r : Rm} (h : SmallRm r) : SmR r := ⟨h.1.2.1, h.2.1, fun l hl => (h.2.2 l hl).1.2.1⟩
end Go.Proofs.YteecbbnpgmceiaaGreatDoor.L8
