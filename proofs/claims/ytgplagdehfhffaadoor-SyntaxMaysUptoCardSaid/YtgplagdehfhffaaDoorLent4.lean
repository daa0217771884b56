/-
  lent (08): a program in memory of its own.
-/
import Derived.Test.YtgplagdehfhffaaDoorLent3
import Derived.Test.YtgplagdehfhffaaDoorMayG
namespace Go.Proofs.YtgplagdehfhffaaDoor.L8
open Go Go.RowKit Go.Mine
set_option linter.unusedVariables false
set_option maxHeartbeats 8000000
set_option maxRecDepth 100000

/-- a rule of one's own: its blocks lie from lo on, below hi -/
structure Yr where
  r : Rm
  gh : Nat
  ch : Nat
  gb : Nat
  cb : Nat
  xs : List X3
  lo : Nat
  hi : Nat
def yV (y : Yr) : Rm × Value × Value := (y.r, .slice (some ⟨y.gh, 0, none⟩) y.r.head.terms.length y.ch, .slice (some ⟨y.gb, 0, none⟩) y.r.body.length y.cb)
def OwnY (w : World) (y : Yr) : Prop := OwnR w (fun b => y.lo ≤ b ∧ b < y.hi) y.r y.gh y.ch y.gb y.cb y.xs
def rM : Rm × Value × Value := (⟨⟨⟨#[109, 97, 114, 107]⟩, []⟩, []⟩, .slice none 0 0, .slice none 0 0)
structure OwnP (w : World) (lo : Nat) (rs : List Rm) (gp cp : Nat) (ys : List Yr) : Prop where
  hy : ys.map Yr.r = rs
  own : Mine.Own w 40 3 (some ⟨gp, 0, none⟩) (rs.length + 1) cp (rmsC (ys.map yV ++ [rM]))
  each : ∀ y ∈ ys, OwnY w y
  sep : ys.Pairwise fun y z => y.hi ≤ z.lo
  far : ∀ y ∈ ys, lo ≤ y.lo ∧ (gp < y.lo ∨ y.hi ≤ gp)
  lgp : lo ≤ gp
structure GathP (w wr : World) (lo : Nat) (rs : List Rm) (k : Nat) (a : Option Addr) (c : Nat) (ys : List Yr) : Prop where
  hy : ys.map Yr.r = rs.take k
  own : Mine.Own wr 40 3 a k c (rmsC (ys.map yV))
  each : ∀ y ∈ ys, OwnY wr y
  sep : ys.Pairwise fun y z => y.hi ≤ z.lo
  far : ∀ y ∈ ys, lo ≤ y.lo ∧ y.hi ≤ wr.heap.size ∧ ∀ b, blk a = some b → b < y.lo ∨ y.hi ≤ b
  la : ∀ b, blk a = some b → lo ≤ b
  mod : Mod (fun _ => False) w wr
theorem OwnR.lt {S : Nat → Prop} {w : World} {r : Rm} {gh ch gb cb : Nat} {xs : List X3} (h : OwnR w S r gh ch gb cb xs) : gh < w.heap.size := h.head.lt
theorem GathP.step {w wr v3 w4 : World} {lo : Nat} {rs : List Rm} {k c c4 : Nat} {a a4 : Option Addr} {ys : List Yr} {y : Yr} (h : GathP w wr lo rs k a c ys) (hk : k < rs.length) (hr : rs[k] = y.r) (hlo : w.heap.size ≤ lo) (hlw : lo ≤ wr.heap.size)
    (m : Mod (fun _ => False) wr v3) (hY : OwnY v3 y) (h1 : y.lo = wr.heap.size) (h2 : y.hi ≤ v3.heap.size)
    (hO : Mine.Own w4 40 3 a4 (k + 1) c4 (rmsC (ys.map yV) ++ rmC (yV y))) (hG : Grow v3 a w4 a4) : GathP w w4 lo rs (k + 1) a4 c4 (ys ++ [y]) := by
  have hal : ∀ b, blk a = some b → b < wr.heap.size := h.own.lt
  have hsz := hG.mod.size
  have hsz2 := m.size
  refine ⟨?_, ?_, ?_, ?_, ?_, ?_, ?_⟩
  · rw [List.map_append, h.hy, List.take_succ_eq_append_getElem hk, hr]; rfl
  · rw [List.map_append, rmsC_append]; exact hO
  · intro z hz
    rcases List.mem_append.1 hz with hz | hz
    · have hf := h.far z hz
      exact OwnR.mod (OwnR.mod (h.each z hz) m (fun _ _ => id)) hG.mod (fun b hb e => by rcases hf.2.2 b e with h | h <;> omega)
    · simp at hz; subst hz
      exact OwnR.mod hY hG.mod (fun b hb e => by have := hal b e; omega)
  · rw [List.pairwise_append]
    refine ⟨h.sep, by simp, fun z hz z' hz' => ?_⟩
    simp at hz'; subst hz'
    have := (h.far z hz).2.1
    omega
  · intro z hz
    rcases List.mem_append.1 hz with hz | hz
    · have hf := h.far z hz
      refine ⟨hf.1, by omega, fun b hb => ?_⟩
      rcases hG.pos with e | ⟨g', e, hg'⟩
      · rw [e] at hb; exact hf.2.2 b hb
      · rw [e] at hb; cases hb; right; omega
    · simp at hz; subst hz
      refine ⟨by omega, by omega, fun b hb => ?_⟩
      rcases hG.pos with e | ⟨g', e, hg'⟩
      · rw [e] at hb; left; have := hal b hb; omega
      · rw [e] at hb; cases hb; right; omega
  · intro b hb
    rcases hG.pos with e | ⟨g', e, hg'⟩
    · rw [e] at hb; exact h.la b hb
    · rw [e] at hb; cases hb; omega
  · exact (h.mod.trans m).step hG.mod (fun i hi hs => by have := h.la i hs; omega)
theorem GathP.fin {w wr w4 : World} {lo : Nat} {rs : List Rm} {c cp gp : Nat} {a : Option Addr} {ys : List Yr} (h : GathP w wr lo rs rs.length a c ys) (hlo : w.heap.size ≤ lo) (hlw : lo ≤ wr.heap.size)
    (hO : Mine.Own w4 40 3 (some ⟨gp, 0, none⟩) (rs.length + 1) cp (rmsC (ys.map yV) ++ rmC rM)) (hG : Grow wr a w4 (some ⟨gp, 0, none⟩)) :
    OwnP w4 lo rs gp cp ys ∧ Mod (fun _ => False) w w4 := by
  refine ⟨⟨?_, ?_, ?_, h.sep, ?_, ?_⟩, h.mod.step hG.mod (fun i hi hs => by have := h.la i hs; omega)⟩
  · rw [h.hy, List.take_length]
  · rw [rmsC_append]; exact hO
  · intro z hz
    have hf := h.far z hz
    exact OwnR.mod (h.each z hz) hG.mod (fun b hb e => by rcases hf.2.2 b e with h | h <;> omega)
  · intro z hz
    have hf := h.far z hz
    refine ⟨hf.1, ?_⟩
    rcases hG.pos with e | ⟨g', e, hg'⟩
    · exact hf.2.2 gp e.symm
    · simp at e; right; omega
  · rcases hG.pos with e | ⟨g', e, hg'⟩
    · exact h.la gp e.symm
    · simp at e; omega
theorem OwnP.mod {S : Nat → Prop} {w w' : World} {lo : Nat} {rs : List Rm} {gp cp : Nat} {ys : List Yr} (h : OwnP w lo rs gp cp ys) (m : Mod S w w') (hs : ∀ b, lo ≤ b → ¬ S b) : OwnP w' lo rs gp cp ys :=
  ⟨h.hy, Mine.Own.mod h.own m (fun b hb => by cases hb; exact hs _ h.lgp), fun y hy => OwnR.mod (h.each y hy) m (fun b hb => hs b (by have := (h.far y hy).1; omega)), h.sep, h.far, h.lgp⟩
theorem rmsC_one3 : True := trivial

theorem lent_any (rs : List Rm) (v0 : Value) (w : World) (hr : RsAt w v0 rs) (hs : SmallPm rs) :
    Calls Tryd.prog 23 #[.agg #[v0]] w fun e w' => ∃ gp cp ys, e = .returned (.agg #[.slice (some ⟨gp, 0, none⟩) rs.length cp]) ∧
      OwnP w' (w.heap.size + 2) rs gp cp ys ∧ Mod (fun _ => False) w w' := by
  obtain ⟨hsl, hss⟩ := hs
  obtain ⟨ad, c, xv, rfl, hx, hrx, hxt⟩ := hr
  have HR := Lib.hid hrx; have HX := Lib.hid hx; have HXT := Lib.hid hxt; have HSS := Lib.hid hss
  clear hrx hx hxt hss
  have hm0 : Mod (fun _ => False) w ((w.alloc (.cells #[.slice ad rs.length c] 26)).alloc (.cells #[.slice none 0 0] 26)) := ((Mod.refl _ w).alloc _).alloc _
  have hb0 : ((w.alloc (.cells #[.slice ad rs.length c] 26)).alloc (.cells #[.slice none 0 0] 26)).heap[w.heap.size]? = some (.cells #[.slice ad rs.length c] 26 (0, 0)) :=
    ((Mod.refl (fun _ => False) _).alloc _).at (heap_alloc_new w _) id
  have hb1 : ((w.alloc (.cells #[.slice ad rs.length c] 26)).alloc (.cells #[.slice none 0 0] 26)).heap[w.heap.size + 1]? = some (.cells #[.slice none 0 0] 26 (0, 0)) := by
    have := heap_alloc_new (w.alloc (.cells #[.slice ad rs.length c] 26)) (.cells #[.slice none 0 0] 26)
    simpa using this
  have hs2 : w.heap.size + 2 ≤ ((w.alloc (.cells #[.slice ad rs.length c] 26)).alloc (.cells #[.slice none 0 0] 26)).heap.size := by simp
  go_enter Tryd.func23, Tryd.ntmps23
  go_wp2_with fail
  generalize ((w.alloc (.cells #[.slice ad rs.length c] 26)).alloc (.cells #[.slice none 0 0] 26)) = w2 at *
  have HG0 : Hid (GathP w w2 (w.heap.size + 2) rs 0 none 0 []) :=
    ⟨rfl, Mine.Own.nil _ _ _, (fun _ h => by cases h), List.Pairwise.nil, (fun _ h => by cases h), (by intro b h; simp at h), hm0⟩
  have HB0 := Lib.hid hb0; have HB1 := Lib.hid hb1
  clear hb0 hb1 hm0
  go_loopw [4, 5] (fun lv iv wr => ∃ (k c' : Nat) (a' : Option Addr) (ys : List Yr), lv = .slice a' k c' ∧ iv = .int .i64 k ∧ k ≤ rs.length ∧ Hid (GathP w wr (w.heap.size + 2) rs k a' c' ys) ∧ w.heap.size + 2 ≤ wr.heap.size ∧ Hid (wr.heap[w.heap.size]? = some (.cells #[.slice ad rs.length c] 26 (0, 0))) ∧ Hid (wr.heap[w.heap.size + 1]? = some (.cells #[.slice none 0 0] 26 (0, 0)))) (fun _ iv _ => rs.length - (intOf iv).toNat)
  case atStart => exact ⟨0, 0, none, [], rfl, rfl, Nat.zero_le _, HG0, hs2, HB0, HB1⟩
  case round =>
    obtain ⟨k, c', a', ys, rfl, rfl, hk, hG, hsw, hB0, hB1⟩ := hrel
    clear HG0 HB0 HB1 hs2
    have c2 := cell_at (j := 0) hB0.out rfl
    by_cases hlt : k < rs.length
    · obtain ⟨⟨sk, bk⟩, hx, hmem⟩ := xs_get HX.out hlt
      obtain ⟨bb, o, rfl, x0, x1, x2⟩ := rd_cellR (HR.out.mod hG.out.mod (fun _ _ => id)) hx
      have hsm := HSS.out _ (List.getElem_mem hlt)
      have HA := Lib.hid (lentRule_any rs[k] sk bk wr ((HXT.out _ hmem).1.mod0 hG.out.mod) ((HXT.out _ hmem).2.mod0 hG.out.mod) hsm.1.2.1 hsm.2.1 (fun l hl => (hsm.2.2 l hl).1.2.1))
      obtain ⟨⟨sa, sc, hsk, _⟩, ⟨ba, bc, _, hbk, _⟩⟩ := HXT.out _ hmem
      simp only at hsk hbk
      subst hsk hbk
      clear hx hmem hsm
      unfold rmV at HA
      obtain ⟨t, hteq⟩ : ∃ t, t = rs[k] := ⟨_, rfl⟩
      rw [← hteq] at x0 x1 x2 HA
      have HTE : Hid (rs[k] = t) := hteq.symm
      clear hteq
      obtain ⟨⟨lp, lts⟩, lb⟩ := t
      simp only at x0 x1 x2 HA
      go_wp2_with fail
      refine HA.out.mono ?_
      rintro e v1 ⟨gh, ch, gb, cb, xs, rfl, hY, hMv⟩
      have hm3 : Mod (fun _ => False) wr (v1.alloc (.cells #[.string lp, .slice (some ⟨gh, 0, none⟩) lts.length ch, .slice (some ⟨gb, 0, none⟩) lb.length cb] 40)) := hMv.alloc _
      have HY : Hid (OwnY (v1.alloc (.cells #[.string lp, .slice (some ⟨gh, 0, none⟩) lts.length ch, .slice (some ⟨gb, 0, none⟩) lb.length cb] 40)) ⟨⟨⟨lp, lts⟩, lb⟩, gh, ch, gb, cb, xs, wr.heap.size, v1.heap.size⟩) :=
        OwnR.mod hY ((Mod.refl (fun _ => False) v1).alloc _) (fun _ _ => id)
      have HOO := Lib.hid (hG.out.own.mod hm3 (fun _ _ => id))
      have HM3 := Lib.hid hm3
      have hsv : v1.heap.size ≤ (v1.alloc (.cells #[.string lp, .slice (some ⟨gh, 0, none⟩) lts.length ch, .slice (some ⟨gb, 0, none⟩) lb.length cb] 40)).heap.size := by simp
      have HSV := Lib.hid hsv
      clear hm3 hY hMv HA hsv
      go_wp2_with (at_builtin; refine wpL_appendN (us := [.string lp, .slice (some ⟨gh, 0, none⟩) lts.length ch, .slice (some ⟨gb, 0, none⟩) lb.length cb]) rfl (.tmp 21) (.tmp 23) 24 rfl tiR rfl HOO.out rfl rfl rfl (by omega) (by unfold maxLen; omega) ?_; intro a4 c4 w4 hO4 hG4 _; have HO4 := Lib.hid hO4; have HG4 := Lib.hid hG4; clear hO4 hG4)
      have HGS := Lib.hid (hG.out.step (y := ⟨⟨⟨lp, lts⟩, lb⟩, gh, ch, gb, cb, xs, wr.heap.size, v1.heap.size⟩) hlt HTE.out (by omega) hsw HM3.out HY.out rfl HSV.out HO4.out HG4.out)
      have hsz4 := Nat.le_trans HM3.out.size HG4.out.mod.size
      have HB04 := Lib.hid (HG4.out.mod.at (HM3.out.at hB0.out id) (fun e => by have := hG.out.la _ e; omega))
      have HB14 := Lib.hid (HG4.out.mod.at (HM3.out.at hB1.out id) (fun e => by have := hG.out.la _ e; omega))
      go_roundw
      case rel => exact ⟨k + 1, c4, a4, _, rfl, by go_num, hlt, HGS, by omega, HB04, HB14⟩
      case measure => simp [intOf]; omega
    · obtain rfl : k = rs.length := by omega
      go_wp2_with (at_builtin; refine wpL_appendN (us := [.string ⟨#[109, 97, 114, 107]⟩, .slice none 0 0, .slice none 0 0]) rfl (.tmp 25) (.tmp 28) 24 rfl tiR rfl hG.out.own rfl rfl rfl (by omega) (by unfold maxLen; omega) ?_; intro a4 c4 w4 hO4 hG4 _
                   obtain ⟨gp, rfl⟩ := hO4.atHead (by omega)
                   have hc4 : rs.length + 1 ≤ c4 ∧ c4 ≤ maxLen := by
                     obtain ⟨_, _, _, _, h1, h2, _⟩ := hO4.2.resolve_left (by simp)
                     exact ⟨h1, h2⟩
                   obtain ⟨hc4, hcm⟩ := hc4
                   unfold maxLen at hcm
                   have hb04 := hG4.mod.at hB0.out (fun e => by have := hG.out.la _ e; omega)
                   have hb14 := hG4.mod.at hB1.out (fun e => by have := hG.out.la _ e; omega)
                   have d0 := cell_at (j := 0) hb04 rfl
                   have p0 : w4.frozen? ⟨w.heap.size, 0, none⟩ = false := frozen_at hb04
                   have e0 := cell_at (j := 0) hb14 rfl
                   have q0 : w4.frozen? ⟨w.heap.size + 1, 0, none⟩ = false := frozen_at hb14
                   have HF := Lib.hid (hG.out.fin (by omega) hsw hO4 hG4)
                   have HB14 := Lib.hid hb14
                   clear hO4 hG4 hb04 hb14)
      obtain ⟨hR, hMf⟩ := HF.out
      have hm : Mod (fun k => k = w.heap.size ∨ k = w.heap.size + 1) w4 ((w4.setCell ⟨w.heap.size, 0, none⟩ (.slice (some ⟨gp, 0, none⟩) rs.length c4)).setCell ⟨w.heap.size + 1, 0, none⟩ (.slice (some ⟨gp, 0, none⟩) rs.length c4)) :=
        ((Mod.refl _ w4).setCell (p := ⟨w.heap.size, 0, none⟩) (fun _ => .inl rfl) _).setCell (p := ⟨w.heap.size + 1, 0, none⟩) (fun _ => .inr rfl) _
      have hb := heap_setCell_at (j := 0) (.slice (some ⟨gp, 0, none⟩) rs.length c4) (((Mod.refl (fun k => k = w.heap.size) w4).setCell (p := ⟨w.heap.size, 0, none⟩) (fun _ => rfl) (.slice (some ⟨gp, 0, none⟩) rs.length c4)).at HB14.out (by omega))
      have z0 := cell_at (j := 0) (u := .slice (some ⟨gp, 0, none⟩) rs.length c4) hb rfl
      generalize ((w4.setCell ⟨w.heap.size, 0, none⟩ (.slice (some ⟨gp, 0, none⟩) rs.length c4)).setCell ⟨w.heap.size + 1, 0, none⟩ (.slice (some ⟨gp, 0, none⟩) rs.length c4)) = W at *
      exact bodyPost_ret (v := .agg #[.slice (some ⟨gp, 0, none⟩) rs.length c4]) (by simp [results, Tryd.results23, go_sem, z0]) rfl
        ⟨gp, c4, ys, rfl, hR.mod hm (fun b h e => by omega), hMf.step hm (fun i hi hs => by omega)⟩
end Go.Proofs.YtgplagdehfhffaaDoor.L8
