/-
  What a renaming answers: terms in memory of its own, apart from the names; sibylref09.renamedAtom.
-/
import Derived.Test.YtidgpcjnfkhjoaaDoorRenamed
import Derived.Test.YtidgpcjnfkhjoaaDoorOwn3
namespace Go.Mine
open Go Go.RowKit
theorem Rd.blkLt {w : World} {a : Option Addr} {ts : List Tm} (h : Rd w a (tmsC ts)) (hn : ts ≠ []) : ∀ b, blk a = some b → b < w.heap.size :=
  h.lt (fun e => hn (by
    cases ts with
    | nil => rfl
    | cons t ts => cases e))
/-- terms that lie in blocks of which G holds -/
def TsF (w : World) (G : Nat → Prop) (s : Value) (ts : List Tm) : Prop :=
  ∃ a c, s = .slice a ts.length c ∧ Rd w a (tmsC ts) ∧ (ts ≠ [] → ∀ b, blk a = some b → G b)
theorem TsF.at {w : World} {G : Nat → Prop} {s : Value} {ts : List Tm} (h : TsF w G s ts) : TsAt w s ts := by
  obtain ⟨a, c, e, hr, _⟩ := h
  exact ⟨a, c, e, hr⟩
theorem TsF.empty (w : World) (G : Nat → Prop) (a : Option Addr) (c : Nat) : TsF w G (.slice a 0 c) [] := ⟨a, c, rfl, Rd.nil _ _, fun h => absurd rfl h⟩
theorem TsF.step {S G G' : Nat → Prop} {w w' : World} {s : Value} {ts : List Tm} (h : TsF w G s ts) (m : Mod S w w') (hs : ∀ b, b < w.heap.size → G b → ¬ S b) (hg : ∀ b, b < w.heap.size → G b → G' b) : TsF w' G' s ts := by
  obtain ⟨a, c, e, hr, hb⟩ := h
  by_cases hn : ts = []
  · subst hn
    exact ⟨a, c, e, Rd.nil _ _, fun h => absurd rfl h⟩
  · exact ⟨a, c, e, hr.mod m (fun b h => hs b (hr.blkLt hn b h) (hb hn b h)), fun h b hbb => hg b (hr.blkLt hn b hbb) (hb h b hbb)⟩
theorem TsF.mod0 {G : Nat → Prop} {w w' : World} {s : Value} {ts : List Tm} (h : TsF w G s ts) (m : Mod (fun _ => False) w w') : TsF w' G s ts := h.step m (fun _ _ _ => id) (fun _ _ => id)
theorem TsF.mono {G G' : Nat → Prop} {w : World} {s : Value} {ts : List Tm} (h : TsF w G s ts) (hg : ∀ b, b < w.heap.size → G b → G' b) : TsF w G' s ts := h.step (Mod.refl (fun _ => False) w) (fun _ _ _ => id) hg
/-- literals likewise -/
def LsF (w : World) (G : Nat → Prop) (s : Value) (ls : List Lm) : Prop :=
  ∃ a c xs, s = .slice a ls.length c ∧ xs.map Prod.fst = ls ∧ Rd w a (lmsC xs) ∧ (ls ≠ [] → ∀ b, blk a = some b → G b) ∧ ∀ x ∈ xs, TsF w G x.2 x.1.atom.terms
theorem LsF.at {w : World} {G : Nat → Prop} {s : Value} {ls : List Lm} (h : LsF w G s ls) : LsAt w s ls := by
  obtain ⟨a, c, xs, e, hx, hr, _, ht⟩ := h
  exact ⟨a, c, xs, e, hx, hr, fun x hx => (ht x hx).at⟩
theorem LsF.step {S G G' : Nat → Prop} {w w' : World} {s : Value} {ls : List Lm} (h : LsF w G s ls) (m : Mod S w w') (hs : ∀ b, b < w.heap.size → G b → ¬ S b) (hg : ∀ b, b < w.heap.size → G b → G' b) : LsF w' G' s ls := by
  obtain ⟨a, c, xs, e, hx, hr, hb, ht⟩ := h
  refine ⟨a, c, xs, e, hx, ?_, ?_, fun x hx => (ht x hx).step m hs hg⟩
  · by_cases hn : ls = []
    · subst hn
      obtain rfl : xs = [] := List.map_eq_nil_iff.1 hx
      exact Rd.nil _ _
    · have hlt : ∀ b, blk a = some b → b < w.heap.size := hr.lt (fun e => hn (by
        rw [← hx]
        cases xs with
        | nil => rfl
        | cons x xs => cases e))
      exact hr.mod m (fun b h => hs b (hlt b h) (hb hn b h))
  · intro hn b h
    have hlt : ∀ b, blk a = some b → b < w.heap.size := hr.lt (fun e => hn (by
      rw [← hx]
      cases xs with
      | nil => rfl
      | cons x xs => cases e))
    exact hg b (hlt b h) (hb hn b h)
/-- what changes outside the names, and where the names lie then -/
theorem Grow.step {w w1 w2 : World} {a a1 : Option Addr} {S : Nat → Prop} (g : Grow w a w1 a1) (m : Mod S w1 w2) (hs : ∀ b, b < w.heap.size → S b → blk a = some b) : Grow w a w2 a1 :=
  ⟨g.mod.step m hs, g.pos⟩
end Go.Mine
namespace Go.Proofs.YtidgpcjnfkhjoaaDoor
open Go Go.RowKit Go.Mine
set_option linter.unusedVariables false
set_option maxHeartbeats 4000000
set_option maxRecDepth 100000

theorem nmTm_le (ns : List ByteArray) (t : Tm) : (nmTm ns t).2.length ≤ ns.length + 1 := by
  unfold nmTm
  split
  · exact Nat.le_succ _
  · exact more_len _ _
theorem nmTs_le : ∀ (ns : List ByteArray) (ts : List Tm), (nmTs ns ts).2.length ≤ ns.length + ts.length
  | ns, [] => Nat.le_refl _
  | ns, t :: ts => by
    have h1 := nmTm_le ns t
    have h2 := nmTs_le (nmTm ns t).2 ts
    show (nmTs (nmTm ns t).2 ts).2.length ≤ _
    rw [List.length_cons]
    omega
theorem renamedAtom_any (p : ByteArray) (ts : List Tm) (s : Value) (ns : List ByteArray) (a : Option Addr) (c : Nat) (w0 w : World) (ht : TsAt w0 s ts) (hm0 : Mod (fun _ => False) w0 w) (hfa : ∀ b, blk a = some b → w0.heap.size ≤ b)
    (ho : Mine.Own w 9 1 a ns.length c (sts ns)) (hn : ns.length + ts.length < 2 ^ 30) :
    Calls Tryd.prog 71 #[.agg #[.string p, s], .slice a ns.length c] w fun e w' => ∃ s' a' c', e = .returned (.tuple #[.agg #[.string p, s'], .slice a' (nmTs ns ts).2.length c']) ∧
      TsF w' (fun b => w.heap.size ≤ b ∧ blk a' ≠ some b) s' (nmTs ns ts).1 ∧ Mine.Own w' 9 1 a' (nmTs ns ts).2.length c' (sts (nmTs ns ts).2) ∧ Grow w a w' a' := by
  obtain ⟨sa, sc, rfl, hr⟩ := ht
  have hrl : ts ≠ [] → ∀ b, blk sa = some b → b < w0.heap.size := fun h => hr.blkLt h
  have hb0 : ((w.alloc (.cells #[.string p, .slice sa ts.length sc] 40)).alloc (.cells #[.string ⟨#[]⟩, .slice none 0 0] 40)).heap[w.heap.size]? = some (.cells #[.string p, .slice sa ts.length sc] 40 (0, 0)) := heap_two1 w _ _
  have hb1 : ((w.alloc (.cells #[.string p, .slice sa ts.length sc] 40)).alloc (.cells #[.string ⟨#[]⟩, .slice none 0 0] 40)).heap[w.heap.size + 1]? = some (.cells #[.string ⟨#[]⟩, .slice none 0 0] 40 (0, 0)) := heap_two2 w _ _
  have hm1 : Mod (fun _ => False) w ((w.alloc (.cells #[.string p, .slice sa ts.length sc] 40)).alloc (.cells #[.string ⟨#[]⟩, .slice none 0 0] 40)) := ((Mod.refl _ w).alloc _).alloc _
  have hz1 : ((w.alloc (.cells #[.string p, .slice sa ts.length sc] 40)).alloc (.cells #[.string ⟨#[]⟩, .slice none 0 0] 40)).heap.size = w.heap.size + 2 := by simp
  have HRD : Hid (∀ wr, Mod (fun b => blk a = some b) w wr → Rd wr sa (tmsC ts)) := fun wr m => by
    by_cases hne : ts = []
    · subst hne; exact Rd.nil _ _
    · exact (hr.mod hm0 (fun _ _ => id)).mod m (fun b hb e => by have := hrl hne b hb; have := hfa b e; omega)
  have hal : ∀ b, blk a = some b → b < w.heap.size := ho.lt
  have HAL := Lib.hid hal; have HO := Lib.hid ho
  clear ho hr hrl hfa hm0 hal
  go_enter Tryd.func71, Tryd.ntmps71
  go_wp2_with fail
  generalize ((w.alloc (.cells #[.string p, .slice sa ts.length sc] 40)).alloc (.cells #[.string ⟨#[]⟩, .slice none 0 0] 40)) = w1 at *
  have HB0 := Lib.hid hb0; have HB1 := Lib.hid hb1; have HM1 := Lib.hid hm1
  clear hb0 hb1 hm1
  go_loopw [1, 6, 7] (fun nv lv iv wr => ∃ (k : Nat) (an al : Option Addr) (cn cl : Nat), nv = .slice an (nmTs ns (ts.take k)).2.length cn ∧ lv = .slice al k cl ∧ iv = .int .i64 k ∧ k ≤ ts.length ∧
      Hid (Mine.Own wr 9 1 an (nmTs ns (ts.take k)).2.length cn (sts (nmTs ns (ts.take k)).2)) ∧ Hid (Mine.Own wr 76 2 al k cl (tmsC (nmTs ns (ts.take k)).1)) ∧
      Hid (∀ b, blk al = some b → w.heap.size + 2 ≤ b ∧ blk an ≠ some b) ∧ Hid (Grow w1 a wr an)) (fun _ _ iv _ => ts.length - (intOf iv).toNat)
  case atStart => exact ⟨0, a, none, c, 0, rfl, rfl, rfl, Nat.zero_le _, HO.out.mod HM1.out (fun _ _ => id), Mine.Own.nil _ _ _, Lib.hid (fun b h => by simp at h), Lib.hid (Grow.refl _ _)⟩
  case round =>
    obtain ⟨k, an, al, cn, cl, rfl, rfl, rfl, hk, hOn, hOl, hsep, hG⟩ := hrel
    have hpos : ∀ b, blk an = some b → b ≠ w.heap.size ∧ b ≠ w.heap.size + 1 := fun b hb => by
      rcases hG.out.pos with e | ⟨g, e, hg⟩
      · rw [e] at hb; have := HAL.out b hb; omega
      · rw [e] at hb; cases hb; omega
    have q0 := hG.out.mod.at HB0.out (fun e => by have := HAL.out _ e; omega)
    have q1 := hG.out.mod.at HB1.out (fun e => by have := HAL.out _ e; omega)
    have c0 := cell_at (j := 0) q0 rfl
    have c1 := cell_at (j := 1) q0 rfl
    have fc : wr.frozen? ⟨w.heap.size, 1, none⟩ = false := frozen_at q0
    have r0 := cell_at (j := 0) q1 rfl
    have r1 := cell_at (j := 1) q1 rfl
    have g0 : wr.frozen? ⟨w.heap.size + 1, 0, none⟩ = false := frozen_at q1
    have g1 : wr.frozen? ⟨w.heap.size + 1, 1, none⟩ = false := frozen_at q1
    have hsw : w.heap.size + 2 ≤ wr.heap.size := by have := hG.out.mod.size; omega
    have HG0 := Lib.hid q0; have Q1 := Lib.hid q1
    clear q0 q1
    have HPOS := Lib.hid hpos; clear hpos
    by_cases hlt : k < ts.length
    · obtain ⟨b, o, rfl, x0, x1⟩ := rd_cell2 (HRD.out wr ((HM1.out.mono (fun _ _ h => h.elim)).trans hG.out.mod)) hlt
      have hst := nmTs_snoc ns (ts.take k) ts[k]
      rw [← List.take_succ_eq_append_getElem hlt] at hst
      have HST := Lib.hid hst; clear hst
      obtain ⟨N, hN⟩ : ∃ N, N = (nmTs ns (ts.take k)).2 := ⟨_, rfl⟩
      have hNl : N.length < 2 ^ 30 := by have := nmTs_le ns (ts.take k); rw [← hN, List.length_take] at this; omega
      rw [← hN] at hOn HST ⊢
      have HR := Lib.hid (renamed_any ts[k] N an cn wr hOn.out hNl)
      unfold tmV at HR
      generalize ts[k] = t at *
      clear hN
      obtain ⟨t', ht'⟩ : ∃ t', t' = (nmTm N t).1 := ⟨_, rfl⟩
      obtain ⟨N', hN'⟩ : ∃ N', N' = (nmTm N t).2 := ⟨_, rfl⟩
      rw [← ht', ← hN'] at HR HST
      clear ht' hN'
      go_wp2_with fail
      refine HR.out.mono ?_
      rintro e w2 ⟨a2, c2, rfl, hO2, hG2⟩
      have hl2 : ∀ b, blk al = some b → blk a2 ≠ some b ∧ b < w2.heap.size := fun b hb => by
        have h1 := hOl.out.lt b hb
        exact ⟨hG2.ne h1 (hsep.out b hb).2, Nat.lt_of_lt_of_le h1 hG2.mod.size⟩
      have hOl2 := hOl.out.mod hG2.mod (fun b hb => (hsep.out b hb).2)
      have hmv : Mod (fun _ => False) w2 (w2.alloc (.cells #[.int .i64 t'.kind, .string t'.text] 76)) := (Mod.refl _ w2).alloc _
      have HOL := Lib.hid (hOl2.mod hmv (fun _ _ => id)); have HL2 := Lib.hid hl2; have HO2 := Lib.hid hO2; have HG2 := Lib.hid hG2
      clear hmv hl2 hOl2 hO2 hG2 HR x0 x1
      go_wp2_with (at_builtin; refine wpL_appendN (us := [.int .i64 t'.kind, .string t'.text]) rfl (.tmp 28) (.tmp 30) 38 rfl tiT rfl HOL.out rfl rfl rfl (by omega) (by unfold maxLen; omega) ?_; intro a4 c4 w4 hO4 hG4 _; have HO4 := Lib.hid hO4; have HG4 := Lib.hid hG4; clear hO4 hG4)
      have hOn4 := (HO2.out.mod ((Mod.refl (fun _ => False) w2).alloc (.cells #[.int .i64 t'.kind, .string t'.text] 76)) (fun _ _ => id)).mod HG4.out.mod (fun b hb e => (HL2.out b e).1 hb)
      have hsep4 : ∀ b, blk a4 = some b → w.heap.size + 2 ≤ b ∧ blk a2 ≠ some b := fun b hb => by
        rcases HG4.out.pos with e | ⟨g, e, hg⟩
        · rw [e] at hb
          exact ⟨(hsep.out b hb).1, (HL2.out b hb).1⟩
        · rw [e] at hb; cases hb
          rw [World.size_alloc] at hg
          have := HG2.out.mod.size
          exact ⟨by omega, fun h => by have := HO2.out.lt _ h; omega⟩
      have hG4' : Grow w1 a w4 a2 := (hG.out.trans HG2.out).step ((((Mod.refl (fun b => blk al = some b) w2).alloc _)).trans HG4.out.mod) (fun b hb e => by have := (hsep.out b e).1; omega)
      have H1 := Lib.hid hOn4; have H2 := Lib.hid hsep4; have H3 := Lib.hid hG4'
      clear hOn4 hsep4 hG4'
      go_roundw
      case rel => exact ⟨k + 1, a2, a4, c2, c4, by rw [HST.out], rfl, by go_num, hlt, by rw [HST.out]; exact H1, by rw [HST.out]; simp only [tmsC_append]; exact HO4, H2, H3⟩
      case measure => simp [intOf]; omega
    · obtain rfl : k = ts.length := by omega
      rw [List.take_length] at hOn hOl ⊢
      go_wp2_with fail
      have hm : Mod (fun k => k = w.heap.size ∨ k = w.heap.size + 1) wr (((wr.setCell ⟨w.heap.size, 1, none⟩ (.slice al ts.length cl)).setCell ⟨w.heap.size + 1, 0, none⟩ (.string p)).setCell ⟨w.heap.size + 1, 1, none⟩ (.slice al ts.length cl)) :=
        (((Mod.refl _ wr).setCell (p := ⟨w.heap.size, 1, none⟩) (fun _ => .inl rfl) _).setCell (p := ⟨w.heap.size + 1, 0, none⟩) (fun _ => .inr rfl) _).setCell (p := ⟨w.heap.size + 1, 1, none⟩) (fun _ => .inr rfl) _
      have hb2 := heap_setCell_at (j := 1) (.slice al ts.length cl) (heap_setCell_at (j := 0) (.string p) (((Mod.refl (fun k => k = w.heap.size) wr).setCell (p := ⟨w.heap.size, 1, none⟩) (fun _ => rfl) (.slice al ts.length cl)).at Q1.out (by omega)))
      have z0 := cell_at (j := 0) (u := .string p) hb2 rfl
      have z1 := cell_at (j := 1) (u := .slice al ts.length cl) hb2 rfl
      generalize (((wr.setCell ⟨w.heap.size, 1, none⟩ (.slice al ts.length cl)).setCell ⟨w.heap.size + 1, 0, none⟩ (.string p)).setCell ⟨w.heap.size + 1, 1, none⟩ (.slice al ts.length cl)) = W at *
      have hne : ∀ b, blk an = some b → ¬ (b = w.heap.size ∨ b = w.heap.size + 1) := fun b hb => by have := HPOS.out b hb; omega
      have hne2 : ∀ b, blk al = some b → ¬ (b = w.heap.size ∨ b = w.heap.size + 1) := fun b hb => by have := (hsep.out b hb).1; omega
      exact bodyPost_ret (v := .tuple #[.agg #[.string p, .slice al ts.length cl], .slice an (nmTs ns ts).2.length cn]) (by simp [results, Tryd.results71, go_sem, z0, z1]) rfl
        ⟨_, an, cn, rfl, ⟨al, cl, by rw [nmTs_len], (hOl.out.mod hm hne2).rd, fun _ b hb => ⟨by have := (hsep.out b hb).1; omega, (hsep.out b hb).2⟩⟩, hOn.out.mod hm hne, (Grow.pre0 HM1.out hG.out).step hm (fun b hb e => by omega)⟩
end Go.Proofs.YtidgpcjnfkhjoaaDoor
