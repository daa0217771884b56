/-
  print.Normal walked.
-/
import Derived.Test.YtgplagdehfhffaaDoorAtomN
import Derived.Test.YtgplagdehfhffaaDoorRefNorm
import Derived.Test.YtgplagdehfhffaaDoorMayG
namespace Go.Proofs.YtgplagdehfhffaaDoor
open Go Go.RowKit Go.Mine
set_option linter.unusedVariables false
set_option maxHeartbeats 8000000
set_option maxRecDepth 100000

theorem okTm_small {t : Tm} (h : OkTm t) : 1 ≤ t.kind ∧ t.kind ≤ 7 ∧ t.text.size < 2 ^ 30 := ⟨h.lo, h.hi, by have := h.len; omega⟩
theorem Normal_any (r : Rm) (s b : Value) (w : World) (hs : SmallRm r) (ht : TsAt w s r.head.terms) (hl : LsAt w b r.body) (hpw : Pow w) :
    Calls Tryd.prog 42 #[rmV r s b] w (NormRes r w) := by
  have HPW := Lib.hid hpw; clear hpw
  have HMay := Lib.hid (fun wx (m : Mod (fun _ => False) w wx) => MayRule_any r s b wx hs (ht.mod0 m) (hl.mod0 m))
  obtain ⟨⟨pr, hts⟩, ls⟩ := r
  unfold rmV at HMay ⊢
  simp only at ht hl HMay ⊢
  have HT := Lib.hid ht
  obtain ⟨sa, sc, rfl, _⟩ := ht
  obtain ⟨bd, bc, xv, rfl, hx, hrx, hxt⟩ := hl
  have HR := Lib.hid hrx; have HX := Lib.hid hx; have HXT := Lib.hid hxt
  clear hrx hx hxt
  have hb0 : ((w.alloc (.cells #[.string pr, .slice sa hts.length sc, .slice bd ls.length bc] 40)).alloc (.cells #[.string ⟨#[]⟩, .slice none 0 0, .slice none 0 0] 40)).heap[w.heap.size]? = some (.cells #[.string pr, .slice sa hts.length sc, .slice bd ls.length bc] 40 (0, 0)) := heap_two1 w _ _
  have hb1 : ((w.alloc (.cells #[.string pr, .slice sa hts.length sc, .slice bd ls.length bc] 40)).alloc (.cells #[.string ⟨#[]⟩, .slice none 0 0, .slice none 0 0] 40)).heap[w.heap.size + 1]? = some (.cells #[.string ⟨#[]⟩, .slice none 0 0, .slice none 0 0] 40 (0, 0)) := heap_two2 w _ _
  have hm0 : Mod (fun _ => False) w ((w.alloc (.cells #[.string pr, .slice sa hts.length sc, .slice bd ls.length bc] 40)).alloc (.cells #[.string ⟨#[]⟩, .slice none 0 0, .slice none 0 0] 40)) := ((Mod.refl _ w).alloc _).alloc _
  have hz0 : ((w.alloc (.cells #[.string pr, .slice sa hts.length sc, .slice bd ls.length bc] 40)).alloc (.cells #[.string ⟨#[]⟩, .slice none 0 0, .slice none 0 0] 40)).heap.size = w.heap.size + 2 := by simp
  have HC := Lib.hid (HMay.out _ hm0)
  have HB := Lib.hid (And.intro hb0 (And.intro hb1 (And.intro hm0 hz0)))
  clear HMay hb0 hb1 hm0 hz0
  obtain ⟨m, hm⟩ : ∃ m, m = mayRm ⟨⟨pr, hts⟩, ls⟩ := ⟨_, rfl⟩
  rw [← hm] at HC
  have HMR := Lib.hid hm; clear hm
  go_enter Tryd.func42, Tryd.ntmps42
  go_wp2_with fail
  obtain ⟨w0, hw0⟩ : ∃ w0, w0 = ((w.alloc (.cells #[.string pr, .slice sa hts.length sc, .slice bd ls.length bc] 40)).alloc (.cells #[.string ⟨#[]⟩, .slice none 0 0, .slice none 0 0] 40)) := ⟨_, rfl⟩
  obtain ⟨hb0, hb1, hm0, hz0⟩ := HB.out
  rw [← hw0] at hb0 hb1 hm0 hz0 HC ⊢
  clear hw0 HB
  refine HC.out.mono ?_
  rintro e w1 ⟨rfl, hM1⟩
  have k0 := hM1.at hb0 id
  have k1 := hM1.at hb1 id
  have hM := hm0.trans hM1
  have hz1 : w.heap.size + 2 ≤ w1.heap.size := by have := hM1.size; omega
  clear hb0 hb1 hm0 hz0 hM1 HC w0
  have c0 := cell_at (j := 0) k0 rfl
  have c1 := cell_at (j := 1) k0 rfl
  have r0 := cell_at (j := 0) k1 rfl
  have r1 := cell_at (j := 1) k1 rfl
  have r2 := cell_at (j := 2) k1 rfl
  have g0 : w1.frozen? ⟨w.heap.size + 1, 0, none⟩ = false := frozen_at k1
  have g1 : w1.frozen? ⟨w.heap.size + 1, 1, none⟩ = false := frozen_at k1
  have g2 : w1.frozen? ⟨w.heap.size + 1, 2, none⟩ = false := frozen_at k1
  have K0 := Lib.hid k0; have K1 := Lib.hid k1; have HM := Lib.hid hM
  clear k0 k1 hM
  by_cases hm : m = 0
  · subst hm
    have hmr := HMR.out
    obtain ⟨hmh, hbl, hml⟩ := may_rule hmr.symm
    have HML := Lib.hid hml
    have hah := (okAm hmh).few
    have HKH := Lib.hid (fun t ht => okTm_small ((okAm hmh).all t ht))
    simp only at hbl hah
    clear hmr hmh hml
    clear r0 r1 r2 g0 g1 g2
    have hmm := @run_makeMap Tryd.prog
    have hma : Mod (fun _ => False) w1 (w1.alloc (.map #[] 0)) := (Mod.refl _ w1).alloc _
    have c0m := hma.cell c0 id
    have c1m := hma.cell c1 id
    have HMA := Lib.hid hma
    clear hma
    go_wp2_with fail
    have hMap := MapIs.made w1
    obtain ⟨B, hBe⟩ : ∃ B, B = w1.heap.size := ⟨_, rfl⟩
    rw [← hBe] at hMap ⊢
    have hB3 : B ≠ 3 := by have := HPW.out.lt; omega
    have hBlt := hMap.lt
    refine (ratom_any pr hts _ [] B w _ HT.out (HM.out.trans HMA.out) (by omega) hB3 HKH.out (by simp; omega) hMap (HPW.out.mod0 (HM.out.trans HMA.out))).mono ?_
    rintro e w2 ⟨sh, rfl, hTh, hMp, hMB⟩
    have HTh := Lib.hid (hTh.mono (G' := fun b => B + 1 ≤ b) (fun b _ g => by have := g; simp at this; omega))
    obtain ⟨sha, shc, rfl, _⟩ := hTh
    have hTl := nmTs_len [] hts
    obtain ⟨h', hh'⟩ : ∃ h', h' = (nmTs [] hts).1 := ⟨_, rfl⟩
    obtain ⟨N0, hN0⟩ : ∃ N0, N0 = (nmTs [] hts).2 := ⟨_, rfl⟩
    have hN0l : N0.length ≤ 64 := by have := nmTs_le [] hts; rw [← hN0] at this; simp at this; omega
    have HHN := Lib.hid (And.intro hh' hN0)
    rw [← hh'] at HTh hTl ⊢
    rw [hTl] at HTh
    rw [← hN0] at hMp
    clear hh' hN0
    have k0 := hMB.at (HMA.out.at K0.out id) (by omega)
    have k1 := hMB.at (HMA.out.at K1.out id) (by omega)
    have hM2 : Mod (fun _ => False) w w2 := (HM.out.trans HMA.out).step hMB (fun i hi e => by omega)
    have hz2 : w.heap.size + 2 ≤ w2.heap.size := by have := hMB.size; simp at this; omega
    have hBl2 : B < w2.heap.size := hMp.lt
    have HG := Lib.hid (And.intro k0 (And.intro k1 hM2))
    have HMp := Lib.hid hMp
    have hlB : w.heap.size + 2 ≤ B := by omega
    have hc2 : (w2.alloc (.cells #[.string pr, .slice sha hts.length shc, .slice none 0 0] 40)).cell? ⟨w.heap.size, 2, none⟩ = some (.slice bd ls.length bc) := ((Mod.refl (fun _ => False) w2).alloc _).cell (cell_at (j := 2) k0 rfl) id
    clear k0 k1 hM2 hMp hMB K0 K1 HM c0 c1 c0m c1m hmm hMap hBlt hBe
    go_wp2_with fail
    clear hc2
    obtain ⟨k0, k1, hM2⟩ := HG.out
    have hmv : Mod (fun _ => False) w2 (w2.alloc (.cells #[.string pr, .slice sha hts.length shc, .slice none 0 0] 40)) := (Mod.refl _ w2).alloc _
    have hgo := heap_alloc_new w2 (.cells #[.string pr, .slice sha hts.length shc, .slice none 0 0] 40)
    obtain ⟨v, hv⟩ : ∃ v, v = w2.alloc (.cells #[.string pr, .slice sha hts.length shc, .slice none 0 0] 40) := ⟨_, rfl⟩
    rw [← hv] at hmv hgo ⊢
    clear hv
    have k0' := hmv.at k0 id
    have k1' := hmv.at k1 id
    have hN0 : NG v v (w.heap.size + 2) (fun b => b = B) 0 pr h' (.slice sha hts.length shc) w2.heap.size none 0 [] :=
      ⟨Mine.Own.nil _ _ _, (fun _ h => by cases h), HTh.out.step hmv (fun _ _ _ => id) (fun b hb g => ⟨by omega, by omega, by simp, by omega⟩), hgo, (fun b h => by simp at h), (fun b h => ⟨by omega, by omega⟩), by omega, Mod.refl _ _⟩
    have HN0 := Lib.hid hN0; have K0 := Lib.hid k0'; have K1 := Lib.hid k1'; have HMPv := Lib.hid (HMp.out.mod hmv id); have HMv := Lib.hid (hM2.trans hmv)
    have HPv := Lib.hid (HPW.out.mod0 HMv.out)
    have hzv : w.heap.size + 2 ≤ v.heap.size := Nat.le_trans hz2 hmv.size
    obtain ⟨go, hgoe⟩ : ∃ go, go = w2.heap.size := ⟨_, rfl⟩
    rw [← hgoe] at HN0 ⊢
    have hgo3 : go ≠ 3 := by have := HPW.out.lt; omega
    have hgoB : B < go := by omega
    clear k0 k1 k0' k1' hM2 hmv hgo hN0 HG HMp HTh hgoe
    have HRv : Hid (∀ wr, Mod (fun b => w.heap.size + 2 ≤ b) v wr → Mod (fun _ => False) w wr) := fun wr m => HMv.out.step m (fun i hi h => by omega)
    go_loopw [24] (fun iv wr => ∃ (k : Nat) (al : Option Addr) (cl : Nat) (xs : List (Lm × Value)), iv = .int .i64 k ∧ k ≤ ls.length ∧
        Hid (MapIs wr B (nmLs N0 (ls.take k)).2) ∧ Hid (NG v wr (w.heap.size + 2) (fun b => b = B) k pr h' (.slice sha hts.length shc) go al cl xs) ∧ Hid (xs.map Prod.fst = (nmLs N0 (ls.take k)).1) ∧ Hid (Pow wr)) (fun iv _ => ls.length - (intOf iv).toNat)
    case atStart => exact ⟨0, none, 0, [], rfl, Nat.zero_le _, HMPv, HN0, Lib.hid rfl, HPv⟩
    case round =>
      obtain ⟨k, al, cl, xs, rfl, hk, hMp, hNG, hxs, hPr⟩ := hrel
      have q0 := hNG.out.mod.at K0.out (by omega)
      have q1 := hNG.out.mod.at K1.out (by omega)
      have hMw := HRv.out wr hNG.out.mod
      have hsw : v.heap.size ≤ wr.heap.size := hNG.out.mod.size
      have hgol := hNG.out.ltgo
      have hgoo := hNG.out.out
      by_cases hlt : k < ls.length
      · have hBlt := hMp.out.lt
        obtain ⟨sk, hx, hmem⟩ := xs_get HX.out hlt
        obtain ⟨bb, o, rfl, x0, x1, x2, x3, x4, x5, x6, x7⟩ := rd_cell8 (HR.out.mod hMw (fun _ _ => id)) hx
        have HTS := Lib.hid (HXT.out _ hmem)
        have hmay := HML.out _ (List.getElem_mem hlt)
        have hst := nmLs_snoc N0 (ls.take k) ls[k]
        rw [← List.take_succ_eq_append_getElem hlt] at hst
        have hNl : (nmLs N0 (ls.take k)).2.length < 2 ^ 20 := by
          have := nmLs_le N0 (ls.take k) (fun l hl => HML.out l (List.mem_of_mem_take hl))
          rw [List.length_take] at this
          omega
        obtain ⟨N, hN⟩ : ∃ N, N = (nmLs N0 (ls.take k)).2 := ⟨_, rfl⟩
        rw [← hN] at hMp hst hNl
        clear hN
        have HST := Lib.hid hst
        have HMW := Lib.hid hMw; have Q0 := Lib.hid q0; have Q1 := Lib.hid q1; have HGO := Lib.hid hgoo
        clear hst hx hmem hMw q0 q1 hgoo
        generalize ls[k] = t at *
        obtain ⟨tk, ⟨tp, tts⟩, top, ⟨ll1, ll2⟩, ⟨lr1, lr2⟩⟩ := t
        simp only at x0 x1 x2 x3 x4 x5 x6 x7 HTS ⊢
        by_cases h3 : tk = 3
        · subst h3
          obtain ⟨hp0, ht0⟩ := may_none hmay rfl
          simp only at hp0 ht0
          subst hp0 ht0
          have hok : OkTm ⟨ll1, ll2⟩ ∧ OkTm ⟨lr1, lr2⟩ := by
            cases okLm hmay with
            | pos h _ => exact absurd h (by show ¬ ((3 : Int) = 1); decide)
            | neg h _ => exact absurd h (by show ¬ ((3 : Int) = 2); decide)
            | cmp _ _ _ h1 h2 => exact ⟨h1, h2⟩
          have hs1 := okTm_small hok.1
          have hs2 := okTm_small hok.2
          simp only at hs1 hs2
          obtain ⟨ka, kc, rfl, _⟩ := HTS.out
          try simp only [List.length_nil]
          have hmb : Mod (fun _ => False) wr (wr.alloc (.cells #[.int .i64 3, .string emptyB, .slice ka 0 kc, .int .i64 top, .int .i64 ll1, .string ll2, .int .i64 lr1, .string lr2] 62)).drew := ((Mod.refl _ wr).alloc _).drew
          have HA1 := Lib.hid (rnterm_any ⟨ll1, ll2⟩ N B _ hs1.1 hs1.2.1 hs1.2.2 (by omega) (hMp.out.mod hmb id) (hPr.out.mod0 hmb) hB3)
          have hlb : (wr.alloc (.cells #[.int .i64 3, .string emptyB, .slice ka 0 kc, .int .i64 top, .int .i64 ll1, .string ll2, .int .i64 lr1, .string lr2] 62)).drew.heap[wr.heap.size]? = some (.cells #[.int .i64 3, .string emptyB, .slice ka 0 kc, .int .i64 top, .int .i64 ll1, .string ll2, .int .i64 lr1, .string lr2] 62 (0, 0)) := heap_alloc_new wr _
          have hsd : ((wr.alloc (.cells #[.int .i64 3, .string emptyB, .slice ka 0 kc, .int .i64 top, .int .i64 ll1, .string ll2, .int .i64 lr1, .string lr2] 62)).drew.cell? ⟨wr.heap.size, 4, none⟩ = some (.int .i64 ll1)) ∧ ((wr.alloc (.cells #[.int .i64 3, .string emptyB, .slice ka 0 kc, .int .i64 top, .int .i64 ll1, .string ll2, .int .i64 lr1, .string lr2] 62)).drew.cell? ⟨wr.heap.size, 5, none⟩ = some (.string ll2)) ∧ ((wr.alloc (.cells #[.int .i64 3, .string emptyB, .slice ka 0 kc, .int .i64 top, .int .i64 ll1, .string ll2, .int .i64 lr1, .string lr2] 62)).drew.cell? ⟨wr.heap.size, 6, none⟩ = some (.int .i64 lr1)) ∧ ((wr.alloc (.cells #[.int .i64 3, .string emptyB, .slice ka 0 kc, .int .i64 top, .int .i64 ll1, .string ll2, .int .i64 lr1, .string lr2] 62)).drew.cell? ⟨wr.heap.size, 7, none⟩ = some (.string lr2)) :=
            ⟨cell_at (j := 4) hlb rfl, cell_at (j := 5) hlb rfl, cell_at (j := 6) hlb rfl, cell_at (j := 7) hlb rfl⟩
          have HSD := Lib.hid hsd
          have HLB := Lib.hid hlb; have HMB := Lib.hid hmb
          have HS2 := Lib.hid hs2
          clear hlb hmb hsd hs1 hs2 hok
          unfold tmV at HA1
          try simp only at HA1
          obtain ⟨⟨t1k, t1⟩, ht1⟩ : ∃ t1, t1 = (nmTm N ⟨ll1, ll2⟩).1 := ⟨_, rfl⟩
          obtain ⟨N1, hN1⟩ : ∃ N1, N1 = (nmTm N ⟨ll1, ll2⟩).2 := ⟨_, rfl⟩
          have hN1l : N1.length ≤ N.length + 1 := by rw [hN1]; exact nmTm_le _ _
          obtain ⟨⟨t2k, t2⟩, ht2⟩ : ∃ t2, t2 = (nmTm N1 ⟨lr1, lr2⟩).1 := ⟨_, rfl⟩
          obtain ⟨N2, hN2⟩ : ∃ N2, N2 = (nmTm N1 ⟨lr1, lr2⟩).2 := ⟨_, rfl⟩
          have hlm : nmLm N ⟨3, ⟨emptyB, []⟩, top, ⟨ll1, ll2⟩, ⟨lr1, lr2⟩⟩ = (⟨3, ⟨emptyB, []⟩, top, ⟨t1k, t1⟩, ⟨t2k, t2⟩⟩, N2) := by
            unfold nmLm
            rw [if_pos rfl]
            simp only
            rw [← hN1, ← ht1, ← ht2, ← hN2]
          rw [hlm] at HST
          rw [← ht1, ← hN1] at HA1
          have HE2 := Lib.hid (And.intro ht2 hN2)
          clear ht1 hN1 hlm ht2 hN2
          try simp only at HA1
          go_wp2_with fail
          refine wp_region_ord (fun w' => w'.cell? ⟨wr.heap.size, 4, none⟩ = some (.int .i64 ll1) ∧ w'.cell? ⟨wr.heap.size, 5, none⟩ = some (.string ll2) ∧ w'.cell? ⟨wr.heap.size, 6, none⟩ = some (.int .i64 lr1) ∧ w'.cell? ⟨wr.heap.size, 7, none⟩ = some (.string lr2)) [(0, 0), (0, 1), (1, 2), (0, 4), (0, 5), (1, 6), (0, 8), (2, 3), (0, 9), (3, 7), (3, 10), (0, 11), (3, 12), (0, 13), (3, 14)] (by kernel_rfl) (by kernel_rfl) ?_
          go_wp2_with (first
            | (refine ord_pure rfl rfl rfl (fun K hK => ?_); go_big_quiet_op; refine hK _ ?_; clear hK K)
                        | (refine ord_skip rfl rfl ?_; simp only [Act.put, List.setIfInBounds_toArray, List.set_cons_zero, List.set_cons_succ])
                        | (refine ord_held rfl rfl rfl (HSD.out) (fun K hK => ?_); apply Exists.intro; refine ⟨fun w' hs => ?_, hK _ ?_⟩; (revert hs; dsimp only; (try simp only [and_imp]); intros; go_simp; rfl); clear hK K)
                        | (refine ord_keep rfl rfl (HSD.out) (fun K hK => ?_))
                        | (refine ord_drop rfl rfl (fun K hK => ?_))
                        | (refine ord_nil ?_))
          refine HA1.out.mono ?_
          rintro e v1 ⟨rfl, hm1, hM1⟩
          have hbB : wr.heap.size ≠ B := by omega
          have kl1 := hM1.at HLB.out hbB
          have hc1 : v1.cell? ⟨wr.heap.size, 4, none⟩ = some (.int .i64 ll1) ∧ v1.cell? ⟨wr.heap.size, 5, none⟩ = some (.string ll2) ∧ v1.cell? ⟨wr.heap.size, 6, none⟩ = some (.int .i64 lr1) ∧ v1.cell? ⟨wr.heap.size, 7, none⟩ = some (.string lr2) :=
            ⟨cell_at (j := 4) kl1 rfl, cell_at (j := 5) kl1 rfl, cell_at (j := 6) kl1 rfl, cell_at (j := 7) kl1 rfl⟩
          have hM01 : Mod (fun b => b = B) wr v1 := (HMB.out.mono (T := fun b => b = B) (fun _ _ h => h.elim)).trans hM1
          have HA2 := Lib.hid (rnterm_any ⟨lr1, lr2⟩ N1 B v1 HS2.out.1 HS2.out.2.1 HS2.out.2.2 (by omega) hm1 (hPr.out.mod hM01 (fun e => hB3 e.symm)) hB3)
          unfold tmV at HA2
          rw [← HE2.out.1, ← HE2.out.2] at HA2
          try simp only at HA2
          refine hK _ _ hc1 ?_; clear hK K
          have KL1 := Lib.hid kl1; have HM01 := Lib.hid hM01
          clear kl1 hc1 hM01 hm1 hM1 HA1 HSD HLB
          go_wp2_with (first
            | (refine ord_pure rfl rfl rfl (fun K hK => ?_); go_big_quiet_op; refine hK _ ?_; clear hK K)
                        | (refine ord_skip rfl rfl ?_; simp only [Act.put, List.setIfInBounds_toArray, List.set_cons_zero, List.set_cons_succ])
                        | (refine ord_held rfl rfl rfl (trivial) (fun K hK => ?_); apply Exists.intro; refine ⟨fun w' hs => ?_, hK _ ?_⟩; (revert hs; dsimp only; (try simp only [and_imp]); intros; go_simp; rfl); clear hK K)
                        | (refine ord_keep rfl rfl (trivial) (fun K hK => ?_))
                        | (refine ord_drop rfl rfl (fun K hK => ?_))
                        | (refine ord_nil ?_))
          refine HA2.out.mono ?_
          rintro e v2 ⟨rfl, hm2, hM2⟩
          have kl := hM2.at KL1.out hbB
          have hM02 : Mod (fun b => b = B) wr v2 := HM01.out.trans hM2
          have kg := hM02.at HGO.out (by omega)
          have f1 : v2.frozen? ⟨wr.heap.size, 1, none⟩ = false := frozen_at kl
          have f2 : v2.frozen? ⟨wr.heap.size, 2, none⟩ = false := frozen_at kl
          have f4 : v2.frozen? ⟨wr.heap.size, 4, none⟩ = false := frozen_at kl
          have f5 : v2.frozen? ⟨wr.heap.size, 5, none⟩ = false := frozen_at kl
          have f6 : v2.frozen? ⟨wr.heap.size, 6, none⟩ = false := frozen_at kl
          have f7 : v2.frozen? ⟨wr.heap.size, 7, none⟩ = false := frozen_at kl
          have y0 := cell_at (j := 0) kl rfl
          have y1 := cell_at (j := 1) kl rfl
          have y2 := cell_at (j := 2) kl rfl
          have y3 := cell_at (j := 3) kl rfl
          have y4 := cell_at (j := 4) kl rfl
          have y5 := cell_at (j := 5) kl rfl
          have y6 := cell_at (j := 6) kl rfl
          have y7 := cell_at (j := 7) kl rfl
          have KL := Lib.hid kl; have KG := Lib.hid kg; have HM02 := Lib.hid hM02; have HM2' := Lib.hid hm2
          clear kl kg hM02 hm2 hM2 HA2 KL1 HM01
          have hms : Mod (fun b => b = wr.heap.size) v2 ((((((v2.setCell ⟨wr.heap.size, 4, none⟩ (.int .i64 t1k)).setCell ⟨wr.heap.size, 5, none⟩ (.string t1)).setCell ⟨wr.heap.size, 6, none⟩ (.int .i64 t2k)).setCell ⟨wr.heap.size, 7, none⟩ (.string t2)).setCell ⟨wr.heap.size, 1, none⟩ (.string ⟨#[]⟩)).setCell ⟨wr.heap.size, 2, none⟩ (.slice none 0 0)) := (((((((Mod.refl (fun b => b = wr.heap.size) v2).setCell (p := ⟨wr.heap.size, 4, none⟩) (fun _ => rfl) (.int .i64 t1k)).setCell (p := ⟨wr.heap.size, 5, none⟩) (fun _ => rfl) (.string t1)).setCell (p := ⟨wr.heap.size, 6, none⟩) (fun _ => rfl) (.int .i64 t2k)).setCell (p := ⟨wr.heap.size, 7, none⟩) (fun _ => rfl) (.string t2)).setCell (p := ⟨wr.heap.size, 1, none⟩) (fun _ => rfl) (.string ⟨#[]⟩)).setCell (p := ⟨wr.heap.size, 2, none⟩) (fun _ => rfl) (.slice none 0 0))
          have hk0 : (v2.setCell ⟨wr.heap.size, 4, none⟩ (.int .i64 t1k)).heap[wr.heap.size]? = some (.cells #[.int .i64 3, .string emptyB, .slice ka 0 kc, .int .i64 top, .int .i64 t1k, .string ll2, .int .i64 lr1, .string lr2] 62 (0, 0)) := heap_setCell_at (j := 4) (.int .i64 t1k) KL.out
          have hk1 : ((v2.setCell ⟨wr.heap.size, 4, none⟩ (.int .i64 t1k)).setCell ⟨wr.heap.size, 5, none⟩ (.string t1)).heap[wr.heap.size]? = some (.cells #[.int .i64 3, .string emptyB, .slice ka 0 kc, .int .i64 top, .int .i64 t1k, .string t1, .int .i64 lr1, .string lr2] 62 (0, 0)) := heap_setCell_at (j := 5) (.string t1) hk0
          have hk2 : (((v2.setCell ⟨wr.heap.size, 4, none⟩ (.int .i64 t1k)).setCell ⟨wr.heap.size, 5, none⟩ (.string t1)).setCell ⟨wr.heap.size, 6, none⟩ (.int .i64 t2k)).heap[wr.heap.size]? = some (.cells #[.int .i64 3, .string emptyB, .slice ka 0 kc, .int .i64 top, .int .i64 t1k, .string t1, .int .i64 t2k, .string lr2] 62 (0, 0)) := heap_setCell_at (j := 6) (.int .i64 t2k) hk1
          have hk3 : ((((v2.setCell ⟨wr.heap.size, 4, none⟩ (.int .i64 t1k)).setCell ⟨wr.heap.size, 5, none⟩ (.string t1)).setCell ⟨wr.heap.size, 6, none⟩ (.int .i64 t2k)).setCell ⟨wr.heap.size, 7, none⟩ (.string t2)).heap[wr.heap.size]? = some (.cells #[.int .i64 3, .string emptyB, .slice ka 0 kc, .int .i64 top, .int .i64 t1k, .string t1, .int .i64 t2k, .string t2] 62 (0, 0)) := heap_setCell_at (j := 7) (.string t2) hk2
          have hk4 : (((((v2.setCell ⟨wr.heap.size, 4, none⟩ (.int .i64 t1k)).setCell ⟨wr.heap.size, 5, none⟩ (.string t1)).setCell ⟨wr.heap.size, 6, none⟩ (.int .i64 t2k)).setCell ⟨wr.heap.size, 7, none⟩ (.string t2)).setCell ⟨wr.heap.size, 1, none⟩ (.string ⟨#[]⟩)).heap[wr.heap.size]? = some (.cells #[.int .i64 3, .string ⟨#[]⟩, .slice ka 0 kc, .int .i64 top, .int .i64 t1k, .string t1, .int .i64 t2k, .string t2] 62 (0, 0)) := heap_setCell_at (j := 1) (.string ⟨#[]⟩) hk3
          have hk5 : ((((((v2.setCell ⟨wr.heap.size, 4, none⟩ (.int .i64 t1k)).setCell ⟨wr.heap.size, 5, none⟩ (.string t1)).setCell ⟨wr.heap.size, 6, none⟩ (.int .i64 t2k)).setCell ⟨wr.heap.size, 7, none⟩ (.string t2)).setCell ⟨wr.heap.size, 1, none⟩ (.string ⟨#[]⟩)).setCell ⟨wr.heap.size, 2, none⟩ (.slice none 0 0)).heap[wr.heap.size]? = some (.cells #[.int .i64 3, .string ⟨#[]⟩, .slice none 0 0, .int .i64 top, .int .i64 t1k, .string t1, .int .i64 t2k, .string t2] 62 (0, 0)) := heap_setCell_at (j := 2) (.slice none 0 0) hk4
          have hkl := hk5
          clear hk0 hk1 hk2 hk3 hk4 hk5
          have HH := Lib.hid (And.intro hms hkl)
          clear hms hkl
          go_wp2_with fail
          refine ord_drop rfl rfl (fun K hK => ?_)
          go_wp2_with fail
          (refine ord_pure rfl rfl rfl (fun K hK => ?_); go_big_quiet_op; refine hK _ ?_; clear hK K)
          refine ord_drop rfl rfl (fun K hK => ?_)
          go_wp2_with fail
          (refine ord_pure rfl rfl rfl (fun K hK => ?_); go_big_quiet_op; refine hK _ ?_; clear hK K)
          refine ord_drop rfl rfl (fun K hK => ?_)
          go_wp2_with fail
          refine ord_nil ?_
          obtain ⟨hms, hkl⟩ := HH.out
          obtain ⟨u1, hu1⟩ : ∃ u1, u1 = ((((((v2.setCell ⟨wr.heap.size, 4, none⟩ (.int .i64 t1k)).setCell ⟨wr.heap.size, 5, none⟩ (.string t1)).setCell ⟨wr.heap.size, 6, none⟩ (.int .i64 t2k)).setCell ⟨wr.heap.size, 7, none⟩ (.string t2)).setCell ⟨wr.heap.size, 1, none⟩ (.string ⟨#[]⟩)).setCell ⟨wr.heap.size, 2, none⟩ (.slice none 0 0)) := ⟨_, rfl⟩
          rw [← hu1] at hms hkl
          rw [← hu1]
          have hGt : Mod (fun b => b = B) wr u1 := HM02.out.step hms (fun i hi e => by omega)
          have kg := hms.at KG.out (by omega)
          have hNG2 := hNG.out.named (NB' := fun b => b = B) hGt (fun b hb e => e) (fun b e => hNG.out.nb b e)
          have HNG2 := Lib.hid hNG2
          have HMU := Lib.hid (HM2'.out.mod hms (by omega)); have HPU := Lib.hid (hPr.out.mod hGt (fun e => hB3 e.symm))
          have hlo3 : 3 < w.heap.size := HPW.out.lt
          have HOL := Lib.hid hNG2.lits
          have HGOO := Lib.hid hNG2.out
          clear y0 y1 y2 y3 y4 y5 y6 y7 f1 f2 f4 f5 f6 f7
          have y0 := cell_at (j := 0) hkl rfl
          have y1 := cell_at (j := 1) hkl rfl
          have y2 := cell_at (j := 2) hkl rfl
          have y3 := cell_at (j := 3) hkl rfl
          have y4 := cell_at (j := 4) hkl rfl
          have y5 := cell_at (j := 5) hkl rfl
          have y6 := cell_at (j := 6) hkl rfl
          have y7 := cell_at (j := 7) hkl rfl
          have o2 := cell_at (j := 2) kg rfl
          clear kg hNG2 hGt hms hkl hu1 HH HM2' KL KG HM02 HMB x0 x1 x2 x3 x4 x5 x6 x7
          go_wp2_with (at_builtin; refine wpL_appendN (us := [.int .i64 3, .string ⟨#[]⟩, .slice none 0 0, .int .i64 top, .int .i64 t1k, .string t1, .int .i64 t2k, .string t2]) rfl (.tmp 49) (.tmp 51) 38 rfl tiL rfl HOL.out rfl rfl rfl (by omega) (by unfold maxLen; omega) ?_; intro a4 c4 w4 hO4 hG4 _
                       have hgg := hG4.mod.at HGOO.out (fun e => (HNG2.out.la _ e).2.2 rfl)
                       have z2 := cell_at (j := 2) hgg rfl
                       have fz : w4.frozen? ⟨go, 2, none⟩ = false := frozen_at hgg
                       have HP := Lib.hid (HNG2.out.push (t := ⟨3, ⟨emptyB, []⟩, top, ⟨t1k, t1⟩, ⟨t2k, t2⟩⟩) (sv := .slice none 0 0) (Mod.refl _ _) (TsF.empty _ _ _ _) (fun b e => by subst e; exact HMU.out.lt) hO4 hG4)
                       have HMP := Lib.hid (HMU.out.mod hG4.mod (fun e => (HNG2.out.la _ e).2.1 rfl))
                       have HP4 := Lib.hid (HPU.out.mod hG4.mod (fun e => by have := (HNG2.out.la _ e).1; omega))
                       clear hO4 hG4 hgg)
          have HMF := Lib.hid (HMP.out.mod ((Mod.refl (fun b => b = go) w4).setCell (p := ⟨go, 2, none⟩) (fun _ => rfl) (.slice a4 (k + 1) c4)) (fun e => (HNG2.out.nb B rfl).2 e))
          have HPF := Lib.hid (HP4.out.mod ((Mod.refl (fun b => b = go) w4).setCell (p := ⟨go, 2, none⟩) (fun _ => rfl) (.slice a4 (k + 1) c4)) (fun e => hgo3 e.symm))
          clear z2 fz y0 y1 y2 y3 y4 y5 y6 y7
          go_roundw
          case rel => exact ⟨k + 1, a4, c4, _, by go_num, hlt, by rw [HST.out]; exact HMF, HP, by rw [HST.out]; exact Lib.hid (by rw [List.map_append, hxs.out]; rfl), HPF⟩
          case measure => simp [intOf]; omega
        · have hne : (tk == 3) = false := by simpa using h3
          have hfew : tts.length ≤ 64 ∧ ∀ t ∈ tts, 1 ≤ t.kind ∧ t.kind ≤ 7 ∧ t.text.size < 2 ^ 30 := by
            rcases okLm hmay with ⟨_, ha⟩ | ⟨_, ha⟩ | ⟨h3', _⟩
            · exact ⟨ha.few, fun t ht => okTm_small (ha.all t ht)⟩
            · exact ⟨ha.few, fun t ht => okTm_small (ha.all t ht)⟩
            · exact absurd h3' h3
          obtain ⟨ka, kc, hsk, _⟩ := HTS.out
          try simp only at hsk
          subst hsk
          have hmb : Mod (fun _ => False) wr (wr.alloc (.cells #[.int .i64 tk, .string tp, .slice ka tts.length kc, .int .i64 top, .int .i64 ll1, .string ll2, .int .i64 lr1, .string lr2] 62)) := (Mod.refl _ wr).alloc _
          have HA1 := Lib.hid (ratom_any tp tts _ N B w _ HTS.out (HMW.out.trans hmb) (by omega) hB3 hfew.2 (by have := hfew.1; omega) (hMp.out.mod hmb id) (hPr.out.mod0 hmb))
          have hlb := heap_alloc_new wr (.cells #[.int .i64 tk, .string tp, .slice ka tts.length kc, .int .i64 top, .int .i64 ll1, .string ll2, .int .i64 lr1, .string lr2] 62)
          have HLB := Lib.hid hlb; have HMB := Lib.hid hmb
          clear hlb hmb hfew
          obtain ⟨ts', hts'⟩ : ∃ ts', ts' = (nmTs N tts).1 := ⟨_, rfl⟩
          obtain ⟨N2, hN2⟩ : ∃ N2, N2 = (nmTs N tts).2 := ⟨_, rfl⟩
          have htl : ts'.length = tts.length := by rw [hts']; exact nmTs_len _ _
          have hlm : nmLm N ⟨tk, ⟨tp, tts⟩, top, ⟨ll1, ll2⟩, ⟨lr1, lr2⟩⟩ = (⟨tk, ⟨tp, ts'⟩, top, ⟨ll1, ll2⟩, ⟨lr1, lr2⟩⟩, N2) := by
            unfold nmLm
            rw [if_neg h3]
            simp only
            rw [← hts', ← hN2]
          rw [hlm] at HST
          rw [← hts', ← hN2] at HA1
          clear hts' hN2 hlm
          go_wp2_with fail
          refine HA1.out.mono ?_
          rintro e v1 ⟨s', rfl, hT1, hm1, hM1⟩
          have hT1' := hT1.mono (G' := fun b => wr.heap.size + 1 ≤ b) (fun b _ g => by have := g; simp at this; omega)
          have HT1 := Lib.hid hT1'
          obtain ⟨ka', kc', hs', _⟩ := hT1
          rw [htl] at hs'
          subst hs'
          clear hT1'
          have hbB : wr.heap.size ≠ B := by omega
          have kl := hM1.at HLB.out hbB
          have hM01 : Mod (fun b => b = B) wr v1 := (HMB.out.mono (T := fun b => b = B) (fun _ _ h => h.elim)).trans hM1
          have kg := hM01.at HGO.out (by omega)
          have y0 := cell_at (j := 0) kl rfl
          have y1 := cell_at (j := 1) kl rfl
          have y2 := cell_at (j := 2) kl rfl
          have y3 := cell_at (j := 3) kl rfl
          have y4 := cell_at (j := 4) kl rfl
          have y5 := cell_at (j := 5) kl rfl
          have y6 := cell_at (j := 6) kl rfl
          have y7 := cell_at (j := 7) kl rfl
          have f1 : v1.frozen? ⟨wr.heap.size, 1, none⟩ = false := frozen_at kl
          have f2 : v1.frozen? ⟨wr.heap.size, 2, none⟩ = false := frozen_at kl
          have o2 := cell_at (j := 2) kg rfl
          have hms : Mod (fun b => b = wr.heap.size) v1 ((v1.setCell ⟨wr.heap.size, 1, none⟩ (.string tp)).setCell ⟨wr.heap.size, 2, none⟩ (.slice ka' tts.length kc')) := (((Mod.refl (fun b => b = wr.heap.size) v1).setCell (p := ⟨wr.heap.size, 1, none⟩) (fun _ => rfl) (.string tp)).setCell (p := ⟨wr.heap.size, 2, none⟩) (fun _ => rfl) (.slice ka' tts.length kc'))
          have hk0 : (v1.setCell ⟨wr.heap.size, 1, none⟩ (.string tp)).heap[wr.heap.size]? = some (.cells #[.int .i64 tk, .string tp, .slice ka tts.length kc, .int .i64 top, .int .i64 ll1, .string ll2, .int .i64 lr1, .string lr2] 62 (0, 0)) := heap_setCell_at (j := 1) (.string tp) kl
          have hk1 : ((v1.setCell ⟨wr.heap.size, 1, none⟩ (.string tp)).setCell ⟨wr.heap.size, 2, none⟩ (.slice ka' tts.length kc')).heap[wr.heap.size]? = some (.cells #[.int .i64 tk, .string tp, .slice ka' tts.length kc', .int .i64 top, .int .i64 ll1, .string ll2, .int .i64 lr1, .string lr2] 62 (0, 0)) := heap_setCell_at (j := 2) (.slice ka' tts.length kc') hk0
          have hGt : Mod (fun b => b = B) wr ((v1.setCell ⟨wr.heap.size, 1, none⟩ (.string tp)).setCell ⟨wr.heap.size, 2, none⟩ (.slice ka' tts.length kc')) := hM01.step hms (fun i hi e => by omega)
          have hNG2 := hNG.out.named (NB' := fun b => b = B) hGt (fun b hb e => e) (fun b e => hNG.out.nb b e)
          have hTF := HT1.out.step hms (G' := Gd (w.heap.size + 2) (fun b => b = B) al go) (fun b hb g e => by have h1 : wr.heap.size + 1 ≤ b := g; omega) (fun b hb g => by
            have h2 := hNG.out.lgo
            have h1 : wr.heap.size + 1 ≤ b := g
            refine ⟨by omega, by omega, fun e => ?_, by omega⟩
            have := hNG.out.lits.lt b e; omega)
          have HNG2 := Lib.hid hNG2; have HTF := Lib.hid hTF
          have HMU := Lib.hid (hm1.mod hms (by omega)); have HPU := Lib.hid (hPr.out.mod hGt (fun e => hB3 e.symm))
          have hlo3 : 3 < w.heap.size := HPW.out.lt
          have HOL := Lib.hid hNG2.lits
          have HGOO := Lib.hid hNG2.out
          clear kl kg hms hGt hNG2 hTF hm1 hM1 hM01 hk0 hk1 HA1 HLB HMB HT1 x0 x1 x2 x3 x4 x5 x6 x7
          go_wp2_with (at_builtin; refine wpL_appendN (us := [.int .i64 tk, .string tp, .slice ka' tts.length kc', .int .i64 top, .int .i64 ll1, .string ll2, .int .i64 lr1, .string lr2]) rfl (.tmp 49) (.tmp 51) 38 rfl tiL rfl HOL.out rfl rfl rfl (by omega) (by unfold maxLen; omega) ?_; intro a4 c4 w4 hO4 hG4 _
                       have hgg := hG4.mod.at HGOO.out (fun e => (HNG2.out.la _ e).2.2 rfl)
                       have z2 := cell_at (j := 2) hgg rfl
                       have fz : w4.frozen? ⟨go, 2, none⟩ = false := frozen_at hgg
                       have HP := Lib.hid (HNG2.out.push (t := ⟨tk, ⟨tp, ts'⟩, top, ⟨ll1, ll2⟩, ⟨lr1, lr2⟩⟩) (sv := .slice ka' tts.length kc') (Mod.refl _ _) HTF.out (fun b e => by subst e; exact HMU.out.lt) hO4 hG4)
                       have HMP := Lib.hid (HMU.out.mod hG4.mod (fun e => (HNG2.out.la _ e).2.1 rfl))
                       have HP4 := Lib.hid (HPU.out.mod hG4.mod (fun e => by have := (HNG2.out.la _ e).1; omega))
                       clear hO4 hG4 hgg)
          have HMF := Lib.hid (HMP.out.mod ((Mod.refl (fun b => b = go) w4).setCell (p := ⟨go, 2, none⟩) (fun _ => rfl) (.slice a4 (k + 1) c4)) (fun e => (HNG2.out.nb B rfl).2 e))
          have HPF := Lib.hid (HP4.out.mod ((Mod.refl (fun b => b = go) w4).setCell (p := ⟨go, 2, none⟩) (fun _ => rfl) (.slice a4 (k + 1) c4)) (fun e => hgo3 e.symm))
          clear z2 fz y0 y1 y2 y3 y4 y5 y6 y7
          go_roundw
          case rel => exact ⟨k + 1, a4, c4, _, by go_num, hlt, by rw [HST.out]; exact HMF, HP, by rw [HST.out]; exact Lib.hid (by rw [List.map_append, hxs.out]; rfl), HPF⟩
          case measure => simp [intOf]; omega
      · obtain rfl : k = ls.length := by omega
        rw [List.take_length] at hMp hxs
        have o0 := cell_at (j := 0) hgoo rfl
        have o1 := cell_at (j := 1) hgoo rfl
        have o2 := cell_at (j := 2) hgoo rfl
        have r0 := cell_at (j := 0) q1 rfl
        have r1 := cell_at (j := 1) q1 rfl
        have r2 := cell_at (j := 2) q1 rfl
        have g0 : wr.frozen? ⟨w.heap.size + 1, 0, none⟩ = false := frozen_at q1
        have g1 : wr.frozen? ⟨w.heap.size + 1, 1, none⟩ = false := frozen_at q1
        have g2 : wr.frozen? ⟨w.heap.size + 1, 2, none⟩ = false := frozen_at q1
        have Q1 := Lib.hid q1; have HMW := Lib.hid hMw
        clear q0 q1 hgoo hMw
        go_wp2_with fail
        have hms : Mod (fun b => b = w.heap.size + 1) wr (((wr.setCell ⟨w.heap.size + 1, 0, none⟩ (.string pr)).setCell ⟨w.heap.size + 1, 1, none⟩ (.slice sha hts.length shc)).setCell ⟨w.heap.size + 1, 2, none⟩ (.slice al ls.length cl)) :=
          (((Mod.refl (fun b => b = w.heap.size + 1) wr).setCell (p := ⟨w.heap.size + 1, 0, none⟩) (fun _ => rfl) _).setCell (p := ⟨w.heap.size + 1, 1, none⟩) (fun _ => rfl) _).setCell (p := ⟨w.heap.size + 1, 2, none⟩) (fun _ => rfl) _
        have hb2 := heap_setCell_at (j := 2) (.slice al ls.length cl) (heap_setCell_at (j := 1) (.slice sha hts.length shc) (heap_setCell_at (j := 0) (.string pr) Q1.out))
        have z0 := cell_at (j := 0) (u := .string pr) hb2 rfl
        have z1 := cell_at (j := 1) (u := .slice sha hts.length shc) hb2 rfl
        have z2 := cell_at (j := 2) (u := .slice al ls.length cl) hb2 rfl
        generalize (((wr.setCell ⟨w.heap.size + 1, 0, none⟩ (.string pr)).setCell ⟨w.heap.size + 1, 1, none⟩ (.slice sha hts.length shc)).setCell ⟨w.heap.size + 1, 2, none⟩ (.slice al ls.length cl)) = W at *
        refine bodyPost_ret (v := .tuple #[.agg #[.string pr, .slice sha hts.length shc, .slice al ls.length cl], .int .i64 0]) (by simp [results, Tryd.results42, go_sem, z0, z1, z2]) rfl ?_
        have hnr : nmR0 ⟨⟨pr, hts⟩, ls⟩ = ⟨⟨pr, h'⟩, (nmLs N0 ls).1⟩ := by
          unfold nmR0
          rw [if_pos HMR.out.symm]
          unfold nmRm
          simp only
          rw [← HHN.out.1, ← HHN.out.2]
        unfold NormRes
        rw [hnr, ← HMR.out]
        have hfin := hNG.out
        have hll := nmLs_len N0 ls
        rw [← hll] at hfin
        have hF := hfin.fin (l0 := w.heap.size + 2) (Nat.le_refl _) hxs.out
        rw [hll] at hF
        have hF2 := hF.step hms (fun x hx h e => by omega)
        exact ⟨_, _, rfl, ⟨hF2.1.mono (fun b _ g => by omega), hF2.2.step (Mod.refl (fun _ => False) W) (fun _ _ _ => id) (fun b _ g => by omega)⟩, HMW.out.step hms (fun i hi e => by omega)⟩
  · have hmb : (m != 0) = true := by simpa using hm
    have hnr : nmR0 ⟨⟨pr, hts⟩, ls⟩ = emR := by unfold nmR0; rw [if_neg (by rw [← HMR.out]; exact hm)]
    have HNR := Lib.hid hnr
    clear hm hnr c0 c1
    go_wp2_with fail
    have hm2 : Mod (fun k => k = w.heap.size + 1) w1 (((w1.setCell ⟨w.heap.size + 1, 0, none⟩ (.string ⟨#[]⟩)).setCell ⟨w.heap.size + 1, 1, none⟩ (.slice none 0 0)).setCell ⟨w.heap.size + 1, 2, none⟩ (.slice none 0 0)) :=
      (((Mod.refl (fun k => k = w.heap.size + 1) w1).setCell (p := ⟨w.heap.size + 1, 0, none⟩) (fun _ => rfl) _).setCell (p := ⟨w.heap.size + 1, 1, none⟩) (fun _ => rfl) _).setCell (p := ⟨w.heap.size + 1, 2, none⟩) (fun _ => rfl) _
    have hb2 := heap_setCell_at (j := 2) (.slice none 0 0) (heap_setCell_at (j := 1) (.slice none 0 0) (heap_setCell_at (j := 0) (.string ⟨#[]⟩) K1.out))
    have z0 := cell_at (j := 0) (u := .string ⟨#[]⟩) hb2 rfl
    have z1 := cell_at (j := 1) (u := .slice none 0 0) hb2 rfl
    have z2 := cell_at (j := 2) (u := .slice none 0 0) hb2 rfl
    generalize (((w1.setCell ⟨w.heap.size + 1, 0, none⟩ (.string ⟨#[]⟩)).setCell ⟨w.heap.size + 1, 1, none⟩ (.slice none 0 0)).setCell ⟨w.heap.size + 1, 2, none⟩ (.slice none 0 0)) = W at *
    refine bodyPost_ret (v := .tuple #[.agg #[.string ⟨#[]⟩, .slice none 0 0, .slice none 0 0], .int .i64 m]) (by simp [results, Tryd.results42, go_sem, z0, z1, z2]) rfl ?_
    unfold NormRes
    rw [HNR.out, ← HMR.out]
    exact ⟨_, _, rfl, RmF.em _ _, HM.out.step hm2 (fun i hi e => by omega)⟩
end Go.Proofs.YtgplagdehfhffaaDoor
