/-
  sibylref09.Normal walked.
-/
import Derived.Test.YteecbbnpgmceiaaGreatDoorNormG
import Derived.Test.YteecbbnpgmceiaaGreatDoorRefMayG
namespace Go.Proofs.YteecbbnpgmceiaaGreatDoor
open Go Go.RowKit Go.Mine
set_option linter.unusedVariables false
set_option maxHeartbeats 8000000
set_option maxRecDepth 100000

theorem nmLm_le {l : Lm} (h : mayLm l = 0) (ns : List ByteArray) : (nmLm ns l).2.length ≤ ns.length + 64 := by
  unfold nmLm
  split
  · have h1 := nmTm_le ns l.left
    have h2 := nmTm_le (nmTm ns l.left).2 l.right
    show (nmTm (nmTm ns l.left).2 l.right).2.length ≤ _
    omega
  · rename_i hk
    have h1 := nmTs_le ns l.atom.terms
    have h2 : l.atom.terms.length ≤ 64 := by
      rcases okLm h with ⟨_, ha⟩ | ⟨_, ha⟩ | ⟨h3, _⟩
      · exact ha.few
      · exact ha.few
      · exact absurd h3 hk
    show (nmTs ns l.atom.terms).2.length ≤ _
    omega
theorem nmLs_le : ∀ (ns : List ByteArray) (ls : List Lm), (∀ l ∈ ls, mayLm l = 0) → (nmLs ns ls).2.length ≤ ns.length + 64 * ls.length
  | ns, [], _ => Nat.le_refl _
  | ns, l :: ls, h => by
    have h1 := nmLm_le (h l (List.mem_cons_self ..)) ns
    have h2 := nmLs_le (nmLm ns l).2 ls (fun x hx => h x (List.mem_cons_of_mem _ hx))
    show (nmLs (nmLm ns l).2 ls).2.length ≤ _
    rw [List.length_cons]
    omega
def NormRes (r : Rm) (w : World) (e : Ending) (w' : World) : Prop := ∃ s' b', e = .returned (.tuple #[rmV (nmR0 r) s' b', .int .i64 (mayRm r)]) ∧ RmF w' w.heap.size s' b' (nmR0 r) ∧ Mod (fun _ => False) w w'
theorem RmF.em (w : World) (lo : Nat) : RmF w lo (.slice none 0 0) (.slice none 0 0) emR := ⟨TsF.empty _ _ _ _, none, 0, [], rfl, rfl, Rd.nil _ _, fun h => absurd rfl h, fun _ h => by cases h⟩

theorem refNormal_any (r : Rm) (s b : Value) (w : World) (hs : SmallRm r) (ht : TsAt w s r.head.terms) (hl : LsAt w b r.body) :
    Calls Tryz.prog 44 #[rmV r s b] w (NormRes r w) := by
  have HMay := Lib.hid (fun wx (m : Mod (fun _ => False) w wx) => RefMayRule_any r s b wx hs (ht.mod0 m) (hl.mod0 m))
  obtain ⟨⟨pr, hts⟩, ls⟩ := r
  unfold rmV at HMay ⊢
  simp only at ht hl HMay ⊢
  have HT := Lib.hid ht
  obtain ⟨sa, sc, rfl, _⟩ := ht
  obtain ⟨bd, bc, xv, rfl, hx, hrx, hxt⟩ := hl
  have HR := Lib.hid hrx; have HX := Lib.hid hx; have HXT := Lib.hid hxt
  clear hrx hx hxt
  have hb0 : ((w.alloc (.cells #[.string pr, .slice sa hts.length sc, .slice bd ls.length bc] 46)).alloc (.cells #[.string ⟨#[]⟩, .slice none 0 0, .slice none 0 0] 46)).heap[w.heap.size]? = some (.cells #[.string pr, .slice sa hts.length sc, .slice bd ls.length bc] 46 (0, 0)) := heap_two1 w _ _
  have hb1 : ((w.alloc (.cells #[.string pr, .slice sa hts.length sc, .slice bd ls.length bc] 46)).alloc (.cells #[.string ⟨#[]⟩, .slice none 0 0, .slice none 0 0] 46)).heap[w.heap.size + 1]? = some (.cells #[.string ⟨#[]⟩, .slice none 0 0, .slice none 0 0] 46 (0, 0)) := heap_two2 w _ _
  have hm0 : Mod (fun _ => False) w ((w.alloc (.cells #[.string pr, .slice sa hts.length sc, .slice bd ls.length bc] 46)).alloc (.cells #[.string ⟨#[]⟩, .slice none 0 0, .slice none 0 0] 46)) := ((Mod.refl _ w).alloc _).alloc _
  have hz0 : ((w.alloc (.cells #[.string pr, .slice sa hts.length sc, .slice bd ls.length bc] 46)).alloc (.cells #[.string ⟨#[]⟩, .slice none 0 0, .slice none 0 0] 46)).heap.size = w.heap.size + 2 := by simp
  have HC := Lib.hid (HMay.out _ hm0)
  have HB := Lib.hid (And.intro hb0 (And.intro hb1 (And.intro hm0 hz0)))
  clear HMay hb0 hb1 hm0 hz0
  obtain ⟨m, hm⟩ : ∃ m, m = mayRm ⟨⟨pr, hts⟩, ls⟩ := ⟨_, rfl⟩
  rw [← hm] at HC
  have HMR := Lib.hid hm; clear hm
  go_enter Tryz.func44, Tryz.ntmps44
  go_wp2_with fail
  obtain ⟨w0, hw0⟩ : ∃ w0, w0 = ((w.alloc (.cells #[.string pr, .slice sa hts.length sc, .slice bd ls.length bc] 46)).alloc (.cells #[.string ⟨#[]⟩, .slice none 0 0, .slice none 0 0] 46)) := ⟨_, rfl⟩
  obtain ⟨hb0, hb1, hm0, hz0⟩ := HB.out
  rw [← hw0] at hb0 hb1 hm0 hz0 HC ⊢
  clear hw0 HB
  refine HC.out.mono ?_
  rintro e w1 ⟨rfl, hM1⟩
  have k0 := hM1.at hb0 id
  have k1 := hM1.at hb1 id
  have hM := hm0.trans hM1
  have hz1 : w.heap.size + 2 ≤ w1.heap.size := by have := hM1.size; omega
  clear hb0 hb1 hm0 hz0 hM1 HC w0
  have c0 := cell_at (j := 0) k0 rfl
  have c1 := cell_at (j := 1) k0 rfl
  have r0 := cell_at (j := 0) k1 rfl
  have r1 := cell_at (j := 1) k1 rfl
  have r2 := cell_at (j := 2) k1 rfl
  have g0 : w1.frozen? ⟨w.heap.size + 1, 0, none⟩ = false := frozen_at k1
  have g1 : w1.frozen? ⟨w.heap.size + 1, 1, none⟩ = false := frozen_at k1
  have g2 : w1.frozen? ⟨w.heap.size + 1, 2, none⟩ = false := frozen_at k1
  have K0 := Lib.hid k0; have K1 := Lib.hid k1; have HM := Lib.hid hM
  clear k0 k1 hM
  by_cases hm : m = 0
  · subst hm
    have hmr := HMR.out
    obtain ⟨hmh, hbl, hml⟩ := may_rule hmr.symm
    have HML := Lib.hid hml
    have hah := (okAm hmh).few
    simp only at hbl hah
    clear hmr hmh hml
    clear r0 r1 r2 g0 g1 g2
    go_wp2_with fail
    refine (renamedAtom_any pr hts _ [] none 0 w w1 HT.out HM.out (by intro b h; simp at h) (Mine.Own.nil _ _ _) (by simp; omega)).mono ?_
    rintro e w2 ⟨sh, an, cn, rfl, hTh, hOn, hG⟩
    have HTh := Lib.hid hTh
    obtain ⟨sha, shc, rfl, _⟩ := hTh
    have hTl := nmTs_len [] hts
    obtain ⟨h', hh'⟩ : ∃ h', h' = (nmTs [] hts).1 := ⟨_, rfl⟩
    obtain ⟨N0, hN0⟩ : ∃ N0, N0 = (nmTs [] hts).2 := ⟨_, rfl⟩
    have hN0l : N0.length ≤ 64 := by have := nmTs_le [] hts; rw [← hN0] at this; simp at this; omega
    have HHN := Lib.hid (And.intro hh' hN0)
    rw [← hh'] at HTh hTl ⊢
    rw [hTl] at HTh
    rw [← hN0] at hOn ⊢
    clear hh' hN0
    have k0 := hG.mod.at K0.out (by simp)
    have k1 := hG.mod.at K1.out (by simp)
    have hM2 := HM.out.trans hG.mod0
    have hz2 : w.heap.size + 2 ≤ w2.heap.size := Nat.le_trans hz1 hG.mod.size
    have hfn := hG.fresh
    have hnl := hOn.lt
    have HG := Lib.hid (And.intro k0 (And.intro k1 (And.intro hM2 (And.intro hfn hnl))))
    have HOn := Lib.hid hOn
    clear k0 k1 hM2 hfn hnl hG hOn K0 K1 HM c0 c1
    go_wp2_with fail
    obtain ⟨k0, k1, hM2, hfn, hnl⟩ := HG.out
    have hmv : Mod (fun _ => False) w2 ((w2.alloc (.cells #[.string pr, .slice sha hts.length shc] 43)).alloc (.cells #[.string pr, .slice sha hts.length shc, .slice none 0 0] 46)) := ((Mod.refl _ w2).alloc _).alloc _
    have hgo : ((w2.alloc (.cells #[.string pr, .slice sha hts.length shc] 43)).alloc (.cells #[.string pr, .slice sha hts.length shc, .slice none 0 0] 46)).heap[w2.heap.size + 1]? = some (.cells #[.string pr, .slice sha hts.length shc, .slice none 0 0] 46 (0, 0)) := heap_two2 w2 _ _
    obtain ⟨v, hv⟩ : ∃ v, v = ((w2.alloc (.cells #[.string pr, .slice sha hts.length shc] 43)).alloc (.cells #[.string pr, .slice sha hts.length shc, .slice none 0 0] 46)) := ⟨_, rfl⟩
    rw [← hv] at hmv hgo ⊢
    clear hv
    have k0' := hmv.at k0 id
    have k1' := hmv.at k1 id
    have hN0 : NG v v (w.heap.size + 2) (fun b => blk an = some b) 0 pr h' (.slice sha hts.length shc) (w2.heap.size + 1) none 0 [] :=
      ⟨Mine.Own.nil _ _ _, (fun _ h => by cases h), HTh.out.step hmv (fun _ _ _ => id) (fun b hb g => ⟨by have := g.1; omega, g.2, by simp, by omega⟩), hgo, (fun b h => by simp at h), (fun b h => ⟨by have := hfn b h; omega, by have := hnl b h; omega⟩), by omega, Mod.refl _ _⟩
    have HN0 := Lib.hid hN0; have K0 := Lib.hid k0'; have K1 := Lib.hid k1'; have HOv := Lib.hid (HOn.out.mod hmv (fun _ _ => id)); have HMv := Lib.hid (hM2.trans hmv)
    have hzv : w.heap.size + 2 ≤ v.heap.size := Nat.le_trans hz2 hmv.size
    obtain ⟨go, hgoe⟩ : ∃ go, go = w2.heap.size + 1 := ⟨_, rfl⟩
    rw [← hgoe] at HN0 ⊢
    clear k0 k1 k0' k1' hM2 hfn hnl hmv hgo hN0 HG HOn HTh hgoe
    have HRv : Hid (∀ wr, Mod (fun b => w.heap.size + 2 ≤ b) v wr → Mod (fun _ => False) w wr) := fun wr m => HMv.out.step m (fun i hi h => by omega)
    go_loopw [6, 8] (fun nv iv wr => ∃ (k : Nat) (ak al : Option Addr) (cn' cl : Nat) (xs : List (Lm × Value)), nv = .slice ak (nmLs N0 (ls.take k)).2.length cn' ∧ iv = .int .i64 k ∧ k ≤ ls.length ∧
        Hid (Mine.Own wr 9 1 ak (nmLs N0 (ls.take k)).2.length cn' (sts (nmLs N0 (ls.take k)).2)) ∧ Hid (NG v wr (w.heap.size + 2) (fun b => blk ak = some b) k pr h' (.slice sha hts.length shc) go al cl xs) ∧ Hid (xs.map Prod.fst = (nmLs N0 (ls.take k)).1)) (fun _ iv _ => ls.length - (intOf iv).toNat)
    case atStart => exact ⟨0, an, none, cn, 0, [], rfl, rfl, Nat.zero_le _, HOv, HN0, Lib.hid rfl⟩
    case round =>
      obtain ⟨k, ak, al, cn', cl, xs, rfl, rfl, hk, hOk, hNG, hxs⟩ := hrel
      have q0 := hNG.out.mod.at K0.out (by omega)
      have q1 := hNG.out.mod.at K1.out (by omega)
      have c1 := cell_at (j := 2) q0 rfl
      have hMw := HRv.out wr hNG.out.mod
      have hsw : v.heap.size ≤ wr.heap.size := hNG.out.mod.size
      have hgol := hNG.out.ltgo
      have hgoo := hNG.out.out
      have o2 := cell_at (j := 2) hgoo rfl
      by_cases hlt : k < ls.length
      · obtain ⟨sk, hx, hmem⟩ := xs_get HX.out hlt
        obtain ⟨bb, o, rfl, x0, x1, x2, x3, x4, x5, x6, x7⟩ := rd_cell8 (HR.out.mod hMw (fun _ _ => id)) hx
        have HTS := Lib.hid (HXT.out _ hmem)
        have hmay := HML.out _ (List.getElem_mem hlt)
        have hst := nmLs_snoc N0 (ls.take k) ls[k]
        rw [← List.take_succ_eq_append_getElem hlt] at hst
        have hNl : (nmLs N0 (ls.take k)).2.length < 2 ^ 20 := by
          have := nmLs_le N0 (ls.take k) (fun l hl => HML.out l (List.mem_of_mem_take hl))
          rw [List.length_take] at this
          omega
        obtain ⟨N, hN⟩ : ∃ N, N = (nmLs N0 (ls.take k)).2 := ⟨_, rfl⟩
        rw [← hN] at hOk hst hNl ⊢
        clear hN
        have HST := Lib.hid hst
        have HMW := Lib.hid hMw; have Q0 := Lib.hid q0; have Q1 := Lib.hid q1; have HGO := Lib.hid hgoo
        clear hst hx hmem hMw q0 q1 hgoo
        generalize ls[k] = t at *
        obtain ⟨tk, ⟨tp, tts⟩, top, ⟨ll1, ll2⟩, ⟨lr1, lr2⟩⟩ := t
        simp only at x0 x1 x2 x3 x4 x5 x6 x7 HTS ⊢
        by_cases h3 : tk = 3
        · subst h3
          obtain ⟨hp0, ht0⟩ := may_none hmay rfl
          simp only at hp0 ht0
          subst hp0 ht0
          obtain ⟨ka, kc, rfl, _⟩ := HTS.out
          try simp only [List.length_nil]
          have hmb : Mod (fun _ => False) wr (wr.alloc (.cells #[.int .i64 3, .string emptyB, .slice ka 0 kc, .int .i64 top, .int .i64 ll1, .string ll2, .int .i64 lr1, .string lr2] 102)) := (Mod.refl _ wr).alloc _
          have HA1 := Lib.hid (renamed_any ⟨ll1, ll2⟩ N ak cn' _ (hOk.out.mod hmb (fun _ _ => id)) (by omega))
          have hlb := heap_alloc_new wr (.cells #[.int .i64 3, .string emptyB, .slice ka 0 kc, .int .i64 top, .int .i64 ll1, .string ll2, .int .i64 lr1, .string lr2] 102)
          have hal : ∀ b, blk ak = some b → b < wr.heap.size := hOk.out.lt
          have HLB := Lib.hid hlb; have HAL := Lib.hid hal; have HMB := Lib.hid hmb
          clear hlb hal hmb
          unfold tmV at HA1
          try simp only at HA1
          obtain ⟨⟨t1k, t1⟩, ht1⟩ : ∃ t1, t1 = (nmTm N ⟨ll1, ll2⟩).1 := ⟨_, rfl⟩
          obtain ⟨N1, hN1⟩ : ∃ N1, N1 = (nmTm N ⟨ll1, ll2⟩).2 := ⟨_, rfl⟩
          have hN1l : N1.length ≤ N.length + 1 := by rw [hN1]; exact nmTm_le _ _
          obtain ⟨⟨t2k, t2⟩, ht2⟩ : ∃ t2, t2 = (nmTm N1 ⟨lr1, lr2⟩).1 := ⟨_, rfl⟩
          obtain ⟨N2, hN2⟩ : ∃ N2, N2 = (nmTm N1 ⟨lr1, lr2⟩).2 := ⟨_, rfl⟩
          have hlm : nmLm N ⟨3, ⟨emptyB, []⟩, top, ⟨ll1, ll2⟩, ⟨lr1, lr2⟩⟩ = (⟨3, ⟨emptyB, []⟩, top, ⟨t1k, t1⟩, ⟨t2k, t2⟩⟩, N2) := by
            unfold nmLm
            rw [if_pos rfl]
            simp only
            rw [← hN1, ← ht1, ← ht2, ← hN2]
          rw [hlm] at HST
          rw [← ht1, ← hN1] at HA1
          have HE2 := Lib.hid (And.intro ht2 hN2)
          clear ht1 hN1 hlm ht2 hN2
          try simp only at HA1
          go_wp2_with fail
          refine HA1.out.mono ?_
          rintro e v1 ⟨a1, d1, rfl, hO1, hG1⟩
          have kl := hG1.mod.at HLB.out (fun e => by have := HAL.out _ e; omega)
          have kg := hG1.mod.at (HMB.out.at HGO.out id) (fun e => (hNG.out.nb _ e).2 rfl)
          have y0 := cell_at (j := 0) kl rfl
          have y1 := cell_at (j := 1) kl rfl
          have y2 := cell_at (j := 2) kl rfl
          have y3 := cell_at (j := 3) kl rfl
          have y4 := cell_at (j := 4) kl rfl
          have y5 := cell_at (j := 5) kl rfl
          have y6 := cell_at (j := 6) kl rfl
          have y7 := cell_at (j := 7) kl rfl
          have f4 : v1.frozen? ⟨wr.heap.size, 4, none⟩ = false := frozen_at kl
          have f5 : v1.frozen? ⟨wr.heap.size, 5, none⟩ = false := frozen_at kl
          have KL := Lib.hid kl; have KG := Lib.hid kg; have HO1 := Lib.hid hO1; have HG1 := Lib.hid hG1
          clear kl kg hO1 hG1 HA1 c1 o2 x0 x1 x2 x3 x4 x5 x6 x7
          have hms : Mod (fun b => b = wr.heap.size) v1 ((v1.setCell ⟨wr.heap.size, 4, none⟩ (.int .i64 t1k)).setCell ⟨wr.heap.size, 5, none⟩ (.string t1)) := ((Mod.refl (fun b => b = wr.heap.size) v1).setCell (p := ⟨wr.heap.size, 4, none⟩) (fun _ => rfl) _).setCell (p := ⟨wr.heap.size, 5, none⟩) (fun _ => rfl) _
          have hkl := heap_setCell_at (j := 5) (.string t1) (heap_setCell_at (j := 4) (.int .i64 t1k) KL.out)
          have hkg := hms.at KG.out (by omega)
          have hna1 : ∀ b, blk a1 = some b → b ≠ wr.heap.size := fun b hb => by
            rcases HG1.out.pos with e | ⟨g, e, hg⟩
            · rw [e] at hb; have := HAL.out b hb; omega
            · rw [e] at hb; cases hb; simp at hg; omega
          have hO1' := HO1.out.mod hms (fun b hb e => hna1 b hb e)
          have hG1' : Grow wr ak ((v1.setCell ⟨wr.heap.size, 4, none⟩ (.int .i64 t1k)).setCell ⟨wr.heap.size, 5, none⟩ (.string t1)) a1 := (HG1.out.pre0 HMB.out).step hms (fun b hb e => by omega)
          have HH := Lib.hid (And.intro hkl (And.intro hkg (And.intro hO1' hG1')))
          clear hms hkl hkg hO1' hG1'
          go_wp2_with fail
          obtain ⟨hkl, hkg, hO1', hG1'⟩ := HH.out
          obtain ⟨u1, hu1⟩ : ∃ u1, u1 = (v1.setCell ⟨wr.heap.size, 4, none⟩ (.int .i64 t1k)).setCell ⟨wr.heap.size, 5, none⟩ (.string t1) := ⟨_, rfl⟩
          rw [← hu1] at hkl hkg hO1' hG1' ⊢
          clear hu1 HH
          have HA2 := renamed_any ⟨lr1, lr2⟩ N1 a1 d1 u1 hO1' (by omega)
          unfold tmV at HA2
          rw [← HE2.out.1, ← HE2.out.2] at HA2
          refine HA2.mono ?_
          rintro e v2 ⟨a2, d2, rfl, hO2, hG2⟩
          have kl := hG2.mod.at hkl (hna1 _ · rfl)
          have kg := hG2.mod.at hkg (fun e => by
            rcases HG1.out.pos with e' | ⟨g, e', hg⟩
            · rw [e'] at e; exact (hNG.out.nb _ e).2 rfl
            · rw [e'] at e; cases e; simp at hg; omega)
          clear y0 y1 y2 y3 y4 y5 y6 y7 f4 f5
          have y0 := cell_at (j := 0) kl rfl
          have y1 := cell_at (j := 1) kl rfl
          have y2 := cell_at (j := 2) kl rfl
          have y3 := cell_at (j := 3) kl rfl
          have y4 := cell_at (j := 4) kl rfl
          have y5 := cell_at (j := 5) kl rfl
          have y6 := cell_at (j := 6) kl rfl
          have y7 := cell_at (j := 7) kl rfl
          have f6 : v2.frozen? ⟨wr.heap.size, 6, none⟩ = false := frozen_at kl
          have f7 : v2.frozen? ⟨wr.heap.size, 7, none⟩ = false := frozen_at kl
          have o2 := cell_at (j := 2) kg rfl
          have hna2 : ∀ b, blk a2 = some b → b ≠ wr.heap.size := fun b hb => by
            rcases hG2.pos with e | ⟨g, e, hg⟩
            · rw [e] at hb; exact hna1 b hb
            · rw [e] at hb; cases hb; have := hG1'.mod.size; have := (Array.getElem?_eq_some_iff.1 hkl).1; omega
          have hms : Mod (fun b => b = wr.heap.size) v2 ((v2.setCell ⟨wr.heap.size, 6, none⟩ (.int .i64 t2k)).setCell ⟨wr.heap.size, 7, none⟩ (.string t2)) := ((Mod.refl (fun b => b = wr.heap.size) v2).setCell (p := ⟨wr.heap.size, 6, none⟩) (fun _ => rfl) _).setCell (p := ⟨wr.heap.size, 7, none⟩) (fun _ => rfl) _
          have hGt : Grow wr ak ((v2.setCell ⟨wr.heap.size, 6, none⟩ (.int .i64 t2k)).setCell ⟨wr.heap.size, 7, none⟩ (.string t2)) a2 := (hG1'.trans hG2).step hms (fun b hb e => by omega)
          have hNG2 := hNG.out.named (NB' := fun b => blk a2 = some b) hGt.mod (fun b hb e => by
            rcases hGt.pos with e' | ⟨g, e', hg⟩
            · rw [e'] at e; exact e
            · rw [e'] at e; cases e; omega) (fun b e => by
            rcases hGt.pos with e' | ⟨g, e', hg⟩
            · rw [e'] at e; exact hNG.out.nb b e
            · rw [e'] at e; cases e; have := hNG.out.lgo; exact ⟨by omega, by omega⟩)
          have hO2' := hO2.mod hms (fun b hb e => hna2 b hb e)
          have HNG2 := Lib.hid hNG2; have HO2 := Lib.hid hO2'; have HLT := Lib.hid hO2'.lt
          have HOL := Lib.hid hNG2.lits
          have HGOO := Lib.hid hNG2.out
          clear kl kg hna2 hms hGt hNG2 hO2' hO2 hG2 hkl hkg hO1' hG1' HA2 KL KG HO1 HG1 HLB HMB hna1
          go_wp2_with (at_builtin; refine wpL_appendN (us := [.int .i64 3, .string emptyB, .slice ka 0 kc, .int .i64 top, .int .i64 t1k, .string t1, .int .i64 t2k, .string t2]) rfl (.tmp 64) (.tmp 66) 44 rfl tiL rfl HOL.out rfl rfl rfl (by omega) (by unfold maxLen; omega) ?_; intro a4 c4 w4 hO4 hG4 _
                       have hgg := hG4.mod.at HGOO.out (fun e => (HNG2.out.la _ e).2.2 rfl)
                       have z2 := cell_at (j := 2) hgg rfl
                       have fz : w4.frozen? ⟨go, 2, none⟩ = false := frozen_at hgg
                       have HP := Lib.hid (HNG2.out.push (t := ⟨3, ⟨emptyB, []⟩, top, ⟨t1k, t1⟩, ⟨t2k, t2⟩⟩) (sv := .slice ka 0 kc) (Mod.refl _ _) (TsF.empty _ _ _ _) HLT.out hO4 hG4)
                       have HON := Lib.hid (HO2.out.mod hG4.mod (fun b hb e => (HNG2.out.la b e).2.1 hb))
                       clear hO4 hG4 hgg)
          have hgo4 : blk a2 ≠ some go := fun e => (HNG2.out.nb _ e).2 rfl
          have HOF := Lib.hid (HON.out.mod ((Mod.refl (fun b => b = go) w4).setCell (p := ⟨go, 2, none⟩) (fun _ => rfl) (.slice a4 (k + 1) c4)) (fun b hb e => hgo4 (by rw [← e]; exact hb)))
          clear hgo4 z2 fz y0 y1 y2 y3 y4 y5 y6 y7
          go_roundw
          case rel => exact ⟨k + 1, a2, a4, d2, c4, _, by rw [HST.out], by go_num, hlt, by rw [HST.out]; exact HOF, HP, by rw [HST.out]; exact Lib.hid (by rw [List.map_append, hxs.out]; rfl)⟩
          case measure => simp [intOf]; omega
        · have hne : (tk == 3) = false := by simpa using h3
          have hfew : tts.length ≤ 64 := by
            rcases okLm hmay with ⟨_, ha⟩ | ⟨_, ha⟩ | ⟨h3', _⟩
            · exact ha.few
            · exact ha.few
            · exact absurd h3' h3
          obtain ⟨ka, kc, hsk, _⟩ := HTS.out
          try simp only at hsk
          subst hsk
          have hmb : Mod (fun _ => False) wr (wr.alloc (.cells #[.int .i64 tk, .string tp, .slice ka tts.length kc, .int .i64 top, .int .i64 ll1, .string ll2, .int .i64 lr1, .string lr2] 102)) := (Mod.refl _ wr).alloc _
          have hal : ∀ b, blk ak = some b → b < wr.heap.size := hOk.out.lt
          have HA1 := Lib.hid (renamedAtom_any tp tts _ N ak cn' w _ HTS.out (HMW.out.trans hmb) (fun b hb => by have := (hNG.out.nb b hb).1; omega) (hOk.out.mod hmb (fun _ _ => id)) (by omega))
          have hlb := heap_alloc_new wr (.cells #[.int .i64 tk, .string tp, .slice ka tts.length kc, .int .i64 top, .int .i64 ll1, .string ll2, .int .i64 lr1, .string lr2] 102)
          have HLB := Lib.hid hlb; have HAL := Lib.hid hal; have HMB := Lib.hid hmb
          clear hlb hal hmb
          obtain ⟨ts', hts'⟩ : ∃ ts', ts' = (nmTs N tts).1 := ⟨_, rfl⟩
          obtain ⟨N2, hN2⟩ : ∃ N2, N2 = (nmTs N tts).2 := ⟨_, rfl⟩
          have htl : ts'.length = tts.length := by rw [hts']; exact nmTs_len _ _
          have hlm : nmLm N ⟨tk, ⟨tp, tts⟩, top, ⟨ll1, ll2⟩, ⟨lr1, lr2⟩⟩ = (⟨tk, ⟨tp, ts'⟩, top, ⟨ll1, ll2⟩, ⟨lr1, lr2⟩⟩, N2) := by
            unfold nmLm
            rw [if_neg h3]
            simp only
            rw [← hts', ← hN2]
          rw [hlm] at HST
          rw [← hts', ← hN2] at HA1
          clear hts' hN2 hlm
          go_wp2_with fail
          refine HA1.out.mono ?_
          rintro e v1 ⟨s', a2, d2, rfl, hT1, hO1, hG1⟩
          have HT1 := Lib.hid hT1
          obtain ⟨ka', kc', hs', _⟩ := hT1
          rw [htl] at hs'
          subst hs'
          have kl := hG1.mod.at HLB.out (fun e => by have := HAL.out _ e; omega)
          have kg := hG1.mod.at (HMB.out.at HGO.out id) (fun e => (hNG.out.nb _ e).2 rfl)
          have y0 := cell_at (j := 0) kl rfl
          have y1 := cell_at (j := 1) kl rfl
          have y2 := cell_at (j := 2) kl rfl
          have y3 := cell_at (j := 3) kl rfl
          have y4 := cell_at (j := 4) kl rfl
          have y5 := cell_at (j := 5) kl rfl
          have y6 := cell_at (j := 6) kl rfl
          have y7 := cell_at (j := 7) kl rfl
          have f1 : v1.frozen? ⟨wr.heap.size, 1, none⟩ = false := frozen_at kl
          have f2 : v1.frozen? ⟨wr.heap.size, 2, none⟩ = false := frozen_at kl
          have o2 := cell_at (j := 2) kg rfl
          have hna2 : ∀ b, blk a2 = some b → b ≠ wr.heap.size := fun b hb => by
            rcases hG1.pos with e | ⟨g, e, hg⟩
            · rw [e] at hb; have := HAL.out b hb; omega
            · rw [e] at hb; cases hb; simp at hg; omega
          have hms : Mod (fun b => b = wr.heap.size) v1 ((v1.setCell ⟨wr.heap.size, 1, none⟩ (.string tp)).setCell ⟨wr.heap.size, 2, none⟩ (.slice ka' tts.length kc')) := ((Mod.refl (fun b => b = wr.heap.size) v1).setCell (p := ⟨wr.heap.size, 1, none⟩) (fun _ => rfl) _).setCell (p := ⟨wr.heap.size, 2, none⟩) (fun _ => rfl) _
          have hGt : Grow wr ak ((v1.setCell ⟨wr.heap.size, 1, none⟩ (.string tp)).setCell ⟨wr.heap.size, 2, none⟩ (.slice ka' tts.length kc')) a2 := (hG1.pre0 HMB.out).step hms (fun b hb e => by omega)
          have hNG2 := hNG.out.named (NB' := fun b => blk a2 = some b) hGt.mod (fun b hb e => by
            rcases hGt.pos with e' | ⟨g, e', hg⟩
            · rw [e'] at e; exact e
            · rw [e'] at e; cases e; omega) (fun b e => by
            rcases hGt.pos with e' | ⟨g, e', hg⟩
            · rw [e'] at e; exact hNG.out.nb b e
            · rw [e'] at e; cases e; have := hNG.out.lgo; exact ⟨by omega, by omega⟩)
          have hTF := HT1.out.step hms (G' := Gd (w.heap.size + 2) (fun b => blk a2 = some b) al go) (fun b hb g e => by have := g.1; simp at this; omega) (fun b hb g => by
            have h1 := g.1
            simp at h1
            have h2 := hNG.out.lgo
            refine ⟨by omega, g.2, fun e => ?_, by omega⟩
            have := hNG.out.lits.lt b e; omega)
          have hO2' := hO1.mod hms (fun b hb e => hna2 b hb e)
          have HNG2 := Lib.hid hNG2; have HO2 := Lib.hid hO2'; have HLT := Lib.hid hO2'.lt; have HTF := Lib.hid hTF
          have HOL := Lib.hid hNG2.lits
          have HGOO := Lib.hid hNG2.out
          clear kl kg hna2 hms hGt hNG2 hO2' hO1 hG1 HA1 HLB HMB hTF HT1 c1 x0 x1 x2 x3 x4 x5 x6 x7
          go_wp2_with (at_builtin; refine wpL_appendN (us := [.int .i64 tk, .string tp, .slice ka' tts.length kc', .int .i64 top, .int .i64 ll1, .string ll2, .int .i64 lr1, .string lr2]) rfl (.tmp 64) (.tmp 66) 44 rfl tiL rfl HOL.out rfl rfl rfl (by omega) (by unfold maxLen; omega) ?_; intro a4 c4 w4 hO4 hG4 _
                       have hgg := hG4.mod.at HGOO.out (fun e => (HNG2.out.la _ e).2.2 rfl)
                       have z2 := cell_at (j := 2) hgg rfl
                       have fz : w4.frozen? ⟨go, 2, none⟩ = false := frozen_at hgg
                       have HP := Lib.hid (HNG2.out.push (t := ⟨tk, ⟨tp, ts'⟩, top, ⟨ll1, ll2⟩, ⟨lr1, lr2⟩⟩) (sv := .slice ka' tts.length kc') (Mod.refl _ _) HTF.out HLT.out hO4 hG4)
                       have HON := Lib.hid (HO2.out.mod hG4.mod (fun b hb e => (HNG2.out.la b e).2.1 hb))
                       clear hO4 hG4 hgg)
          have hgo4 : blk a2 ≠ some go := fun e => (HNG2.out.nb _ e).2 rfl
          have HOF := Lib.hid (HON.out.mod ((Mod.refl (fun b => b = go) w4).setCell (p := ⟨go, 2, none⟩) (fun _ => rfl) (.slice a4 (k + 1) c4)) (fun b hb e => hgo4 (by rw [← e]; exact hb)))
          clear hgo4 z2 fz y0 y1 y2 y3 y4 y5 y6 y7
          go_roundw
          case rel => exact ⟨k + 1, a2, a4, d2, c4, _, by rw [HST.out], by go_num, hlt, by rw [HST.out]; exact HOF, HP, by rw [HST.out]; exact Lib.hid (by rw [List.map_append, hxs.out]; rfl)⟩
          case measure => simp [intOf]; omega
      · obtain rfl : k = ls.length := by omega
        rw [List.take_length] at hOk hxs
        have o0 := cell_at (j := 0) hgoo rfl
        have o1 := cell_at (j := 1) hgoo rfl
        have r0 := cell_at (j := 0) q1 rfl
        have r1 := cell_at (j := 1) q1 rfl
        have r2 := cell_at (j := 2) q1 rfl
        have g0 : wr.frozen? ⟨w.heap.size + 1, 0, none⟩ = false := frozen_at q1
        have g1 : wr.frozen? ⟨w.heap.size + 1, 1, none⟩ = false := frozen_at q1
        have g2 : wr.frozen? ⟨w.heap.size + 1, 2, none⟩ = false := frozen_at q1
        have Q1 := Lib.hid q1; have HMW := Lib.hid hMw
        clear q0 q1 hgoo hMw
        go_wp2_with fail
        have hms : Mod (fun b => b = w.heap.size + 1) wr (((wr.setCell ⟨w.heap.size + 1, 0, none⟩ (.string pr)).setCell ⟨w.heap.size + 1, 1, none⟩ (.slice sha hts.length shc)).setCell ⟨w.heap.size + 1, 2, none⟩ (.slice al ls.length cl)) :=
          (((Mod.refl (fun b => b = w.heap.size + 1) wr).setCell (p := ⟨w.heap.size + 1, 0, none⟩) (fun _ => rfl) _).setCell (p := ⟨w.heap.size + 1, 1, none⟩) (fun _ => rfl) _).setCell (p := ⟨w.heap.size + 1, 2, none⟩) (fun _ => rfl) _
        have hb2 := heap_setCell_at (j := 2) (.slice al ls.length cl) (heap_setCell_at (j := 1) (.slice sha hts.length shc) (heap_setCell_at (j := 0) (.string pr) Q1.out))
        have z0 := cell_at (j := 0) (u := .string pr) hb2 rfl
        have z1 := cell_at (j := 1) (u := .slice sha hts.length shc) hb2 rfl
        have z2 := cell_at (j := 2) (u := .slice al ls.length cl) hb2 rfl
        generalize (((wr.setCell ⟨w.heap.size + 1, 0, none⟩ (.string pr)).setCell ⟨w.heap.size + 1, 1, none⟩ (.slice sha hts.length shc)).setCell ⟨w.heap.size + 1, 2, none⟩ (.slice al ls.length cl)) = W at *
        refine bodyPost_ret (v := .tuple #[.agg #[.string pr, .slice sha hts.length shc, .slice al ls.length cl], .int .i64 0]) (by simp [results, Tryz.results44, go_sem, z0, z1, z2]) rfl ?_
        have hnr : nmR0 ⟨⟨pr, hts⟩, ls⟩ = ⟨⟨pr, h'⟩, (nmLs N0 ls).1⟩ := by
          unfold nmR0
          rw [if_pos HMR.out.symm]
          unfold nmRm
          simp only
          rw [← HHN.out.1, ← HHN.out.2]
        unfold NormRes
        rw [hnr, ← HMR.out]
        have hfin := hNG.out
        have hll := nmLs_len N0 ls
        rw [← hll] at hfin
        have hF := hfin.fin (l0 := w.heap.size + 2) (Nat.le_refl _) hxs.out
        rw [hll] at hF
        have hF2 := hF.step hms (fun x hx h e => by omega)
        exact ⟨_, _, rfl, ⟨hF2.1.mono (fun b _ g => by omega), hF2.2.step (Mod.refl (fun _ => False) W) (fun _ _ _ => id) (fun b _ g => by omega)⟩, HMW.out.step hms (fun i hi e => by omega)⟩
  · have hmb : (m != 0) = true := by simpa using hm
    have hnr : nmR0 ⟨⟨pr, hts⟩, ls⟩ = emR := by unfold nmR0; rw [if_neg (by rw [← HMR.out]; exact hm)]
    have HNR := Lib.hid hnr
    clear hm hnr c0 c1
    go_wp2_with fail
    have hm2 : Mod (fun k => k = w.heap.size + 1) w1 (((w1.setCell ⟨w.heap.size + 1, 0, none⟩ (.string ⟨#[]⟩)).setCell ⟨w.heap.size + 1, 1, none⟩ (.slice none 0 0)).setCell ⟨w.heap.size + 1, 2, none⟩ (.slice none 0 0)) :=
      (((Mod.refl (fun k => k = w.heap.size + 1) w1).setCell (p := ⟨w.heap.size + 1, 0, none⟩) (fun _ => rfl) _).setCell (p := ⟨w.heap.size + 1, 1, none⟩) (fun _ => rfl) _).setCell (p := ⟨w.heap.size + 1, 2, none⟩) (fun _ => rfl) _
    have hb2 := heap_setCell_at (j := 2) (.slice none 0 0) (heap_setCell_at (j := 1) (.slice none 0 0) (heap_setCell_at (j := 0) (.string ⟨#[]⟩) K1.out))
    have z0 := cell_at (j := 0) (u := .string ⟨#[]⟩) hb2 rfl
    have z1 := cell_at (j := 1) (u := .slice none 0 0) hb2 rfl
    have z2 := cell_at (j := 2) (u := .slice none 0 0) hb2 rfl
    generalize (((w1.setCell ⟨w.heap.size + 1, 0, none⟩ (.string ⟨#[]⟩)).setCell ⟨w.heap.size + 1, 1, none⟩ (.slice none 0 0)).setCell ⟨w.heap.size + 1, 2, none⟩ (.slice none 0 0)) = W at *
    refine bodyPost_ret (v := .tuple #[.agg #[.string ⟨#[]⟩, .slice none 0 0, .slice none 0 0], .int .i64 m]) (by simp [results, Tryz.results44, go_sem, z0, z1, z2]) rfl ?_
    unfold NormRes
    rw [HNR.out, ← HMR.out]
    exact ⟨_, _, rfl, RmF.em _ _, HM.out.step hm2 (fun i hi e => by omega)⟩
end Go.Proofs.YteecbbnpgmceiaaGreatDoor
